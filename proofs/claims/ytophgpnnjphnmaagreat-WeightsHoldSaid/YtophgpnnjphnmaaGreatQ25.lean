/-
  Walks over package bitout: Bytes, Close. (Printed by mkZc.py.)
-/
import Derived.Test.YtophgpnnjphnmaaGreatQ24
import Derived.Test.YtophgpnnjphnmaaGreatQ11
namespace Go.Proofs.YtophgpnnjphnmaaGreat
set_option linter.unusedVariables false
set_option linter.unusedSimpArgs false
set_option linter.unusedSectionVars false
open Go.RowKit

set_option maxRecDepth 100000 in
set_option maxHeartbeats 4000000 in
theorem wbytes_any (Q base : Nat) (L : List Bool) (w : World) (h : WR w base Q L) :
    Calls Tryz.prog 147 #[.pointer (some ⟨Q, 0, none⟩)] w fun e w' => ∃ v', e = .returned v' ∧ OwnB w' w.heap.size v' (packB L) ∧ Keeps w w' [] := by
  obtain ⟨i0, hi, hz0, hz1, hz2⟩ := info_parts Tryz.infoByte
  obtain ⟨n, hn, hw⟩ := h
  obtain ⟨a, c, N, BL, v, hb, own, hN, hv, hB, hL⟩ := hw.form
  have hlen := hw.len
  have hNl : N ≤ 1000000 := by
    have h1 := hlen
    rw [hL, List.length_append, rowBits_len] at h1
    omega
  have hrd : RdI .u8 w (.slice a N c) BL := by
    have h1 := own
    rw [hN] at h1 ⊢
    exact own_reads h1
  have HC := Lib.hid (cloneb_any (.slice a N c) BL w hrd (by omega))
  have HP := packB_row hB hn hv
  rw [← hL] at HP
  obtain ⟨c0, c1, c2, -⟩ := hb.three
  have hQ := hb.lt
  have HB := Lib.hid hb
  have HN := Lib.hid hN
  by_cases h0 : 0 < n
  · rw [if_pos h0] at HP
    have HPK := Lib.hid HP
    have h0I : (0 : Int) < (n : Int) := by omega
    have hv7 : v < 128 := by
      have : 2 ^ n ≤ 2 ^ 7 := Nat.pow_le_pow_right (by decide) (by omega)
      rw [show (2 : Nat) ^ 7 = 128 by decide] at this
      omega
    obtain ⟨V, hV⟩ : ∃ V : Int, (v : Int) = V := ⟨_, rfl⟩
    rw [hV] at HPK c0 HB
    have hV8 : V % 256 = V := by omega
    clear hw hb own hv hB hL hrd HP hlen hV hN hn
    go_enter Tryz.func147, Tryz.ntmps147
    go_wp2_with (first
      | (go_at_call 48; go_loud (refine HC.out.mono ?_; rintro e w1 ⟨v1, rfl, own1, k1⟩; unfold OwnB at own1; rw [← HN.out] at own1; obtain ⟨a1, cp1, rfl⟩ := own_form own1; clear c0 c1 c2; obtain ⟨c0, c1, c2, -⟩ := (HB.out.keeps k1 (by simp)).three; have OW1 := Lib.hid own1; have K1 := Lib.hid k1; have hs1 := k1.size; clear own1 k1))
      | (at_builtin; go_loud (refine wpList_app1 (w := w1) rfl _ _ 36 rfl w.heap.size i0 Tryz.underlying36 hi hz0 hz1 hz2 (.slice a1 N cp1) N BL V _ rfl rfl rfl OW1.out (by omega) hs1 ?_; intro a3 c3 w3 own3 k3; have OW3 := Lib.hid own3; have K3 := Lib.hid k3; clear own3 k3)))
    go_ret
    refine ⟨_, rfl, ?_, keeps_row K1.out K3.out (fun g hg => (OW1.out.lt g hg).1)⟩
    rw [HPK.out]
    unfold OwnB
    have hl : (BL ++ [V]).length = N + 1 := by rw [List.length_append, List.length_singleton, ← HN.out]
    rw [hl]
    exact OW3.out
  · rw [if_neg h0, List.append_nil] at HP
    have HPK := Lib.hid HP
    have h0I : decide ((0 : Int) < (n : Int)) = false := decide_eq_false (by omega)
    have h0N : decide (0 < n) = false := decide_eq_false h0
    clear hw hb own hv hB hL hrd HP hlen hN hn h0
    go_enter Tryz.func147, Tryz.ntmps147
    go_wp2_with (go_at_call 48; go_loud (refine HC.out.mono ?_; rintro e w1 ⟨v1, rfl, own1, k1⟩; clear c0 c1 c2; obtain ⟨c0, c1, c2, -⟩ := (HB.out.keeps k1 (by simp)).three; have OW1 := Lib.hid own1; have K1 := Lib.hid k1; clear own1 k1))
    go_ret
    refine ⟨_, rfl, ?_, K1.out⟩
    rw [HPK.out]
    exact OW1.out

/-- A writer at another block with a copy of the bytes. -/
theorem wr_of {W : World} {base CB n v c1 : Nat} {a1 : Option Addr} {BL : List Int} {L : List Bool} (h : n < 8 ∧ v < 2 ^ n ∧ (∀ x ∈ BL, 0 ≤ x ∧ x ≤ 255) ∧ L = rowBits BL ++ bitsN v n) (hl : L.length ≤ 7000000)
    (hb : Blk W CB #[.int .u64 (v : Int), .int .i64 (n : Int), .slice a1 BL.length c1] 191) (own : OwnB W base (.slice a1 BL.length c1) BL) (hbs : base ≤ W.heap.size) : WR W base CB L :=
  ⟨n, h.1, ⟨⟨a1, c1, BL.length, BL, v, hb, own, rfl, h.2.1, h.2.2.1, h.2.2.2⟩, hbs, by have := h.1; omega, by omega⟩⟩

theorem Tryz.writer_size : (Tryz.prog.info? 191).map (·.size) = some 3 := by kernel_rfl

set_option maxRecDepth 100000 in
set_option maxHeartbeats 4000000 in
theorem wclose_any (Q base : Nat) (L : List Bool) (w : World) (h : WR w base Q L) (hl : L.length ≤ 7000000) :
    Calls Tryz.prog 154 #[.pointer (some ⟨Q, 0, none⟩)] w fun e w' => ∃ v', e = .returned v' ∧ OwnB w' w.heap.size v' (packB (L ++ [true])) ∧ Keeps w w' [] := by
  obtain ⟨n, hn, hw⟩ := h
  obtain ⟨a, c, N, BL, v, hb, own, hN, hv, hB, hL⟩ := hw.form
  have hlen := hw.len
  have hNl : N ≤ 1000000 := by
    have h1 := hlen
    rw [hL, List.length_append, rowBits_len] at h1
    omega
  have hrd : RdI .u8 w (.slice a N c) BL := by
    have h1 := own
    rw [hN] at h1 ⊢
    exact own_reads h1
  have HC := Lib.hid (fun W (k : Keeps w W []) => cloneb_any (.slice a N c) BL W (hrd.keeps k) (by omega))
  have hQ := hb.lt
  have HB := Lib.hid hb
  have HN := Lib.hid hN
  have HF := Lib.hid (show _ ∧ _ ∧ _ ∧ _ from ⟨hn, hv, hB, hL⟩)
  have HLL := Lib.hid hl
  clear hw hb own hv hB hL hrd hlen hN hn hl
  go_enter Tryz.func154, Tryz.ntmps154
  go_wp2_with fail
  refine wp_region_held_drew (S := (fun w' => Keeps w w' [])) (by kernel_rfl) (Keeps.refl w []).drew (fun hHeld => ?_)
  refine takeL (i := 0) (v := ?_) rfl (by kernel_rfl) (by kernel_rfl) (by kernel_rfl) (fun _ _ _ h => h) (by rfl) ?_ (by assumption) ?_
  rotate_left
  · (intro w9 hSw; clear hSw; go_simp; (try with_reducible rfl))
  try simp only [Act.put, List.setIfInBounds_toArray, List.set_cons_zero, List.set_cons_succ]
  refine takeL (i := 1) (v := ?_) rfl (by kernel_rfl) (by kernel_rfl) (by kernel_rfl) (fun _ _ _ h => h) (by rfl) ?_ (by assumption) ?_
  rotate_left
  · (intro w9 hSw; clear hSw; go_simp; (try with_reducible rfl))
  try simp only [Act.put, List.setIfInBounds_toArray, List.set_cons_zero, List.set_cons_succ]
  refine takeL (i := 2) (v := ?_) rfl (by kernel_rfl) (by kernel_rfl) (by kernel_rfl) (fun _ _ _ h => h) (by rfl) ?_ (by assumption) ?_
  rotate_left
  · (intro w9 hSw; clear hSw; go_simp; (try with_reducible rfl))
  try simp only [Act.put, List.setIfInBounds_toArray, List.set_cons_zero, List.set_cons_succ]
  refine takeL (i := 3) (v := ?_) rfl (by kernel_rfl) (by kernel_rfl) (by kernel_rfl) (fun _ _ _ h => h) (by rfl) ?_ (by assumption) ?_
  rotate_left
  · (intro w9 hSw; have q := HB.out.keeps hSw (by simp); obtain ⟨r0, r1, r2, -⟩ := q.three; clear hSw q; go_simp; (try with_reducible rfl))
  try simp only [Act.put, List.setIfInBounds_toArray, List.set_cons_zero, List.set_cons_succ]
  refine takeL (i := 4) (v := ?_) rfl (by kernel_rfl) (by kernel_rfl) (by kernel_rfl) (fun _ _ _ h => h) (by rfl) ?_ (by assumption) ?_
  rotate_left
  · (intro w9 hSw; clear hSw; go_simp; (try with_reducible rfl))
  try simp only [Act.put, List.setIfInBounds_toArray, List.set_cons_zero, List.set_cons_succ]
  refine takeL (i := 5) (v := ?_) rfl (by kernel_rfl) (by kernel_rfl) (by kernel_rfl) (fun _ _ _ h => h) (by rfl) ?_ (by assumption) ?_
  rotate_left
  · (intro w9 hSw; clear hSw; go_simp; (try with_reducible rfl))
  try simp only [Act.put, List.setIfInBounds_toArray, List.set_cons_zero, List.set_cons_succ]
  refine takeL (i := 6) (v := ?_) rfl (by kernel_rfl) (by kernel_rfl) (by kernel_rfl) (fun _ _ _ h => h) (by rfl) ?_ (by assumption) ?_
  rotate_left
  · (intro w9 hSw; clear hSw; go_simp; (try with_reducible rfl))
  try simp only [Act.put, List.setIfInBounds_toArray, List.set_cons_zero, List.set_cons_succ]
  refine takeL (i := 7) (v := ?_) rfl (by kernel_rfl) (by kernel_rfl) (by kernel_rfl) (fun _ _ _ h => h) (by rfl) ?_ (by assumption) ?_
  rotate_left
  · (intro w9 hSw; have q := HB.out.keeps hSw (by simp); obtain ⟨r0, r1, r2, -⟩ := q.three; clear hSw q; go_simp; (try with_reducible rfl))
  try simp only [Act.put, List.setIfInBounds_toArray, List.set_cons_zero, List.set_cons_succ]
  refine call2L (i := 8) (j := 10) rfl rfl (by kernel_rfl) (fun Kont hK => ?_) (fun Kont hK => ?_)
  · go_simp
    refine (HC.out _ (Keeps.refl w []).drew).mono ?_
    rintro e w1 ⟨v1, rfl, own1, k1⟩
    obtain ⟨a1, c1, rfl⟩ := own_form own1
    have k1' := (Keeps.refl w []).drew.then k1
    have OW1 := Lib.hid own1
    have K1 := Lib.hid k1'
    have hs1 := k1'.size
    clear own1 k1
    go_wp2_with fail
    refine hK.out _ _ ?_ (fun hHeld => ?_)
    · exact k1'
    clear hK Kont k1'
    refine takeL (i := 9) (v := ?_) rfl (by kernel_rfl) (by kernel_rfl) (by kernel_rfl) (fun _ _ _ h => h) (by rfl) ?_ (by assumption) ?_
    rotate_left
    · (intro w9 hSw; clear hSw; go_simp; (try with_reducible rfl))
    try simp only [Act.put, List.setIfInBounds_toArray, List.set_cons_zero, List.set_cons_succ]
    refine callL (i := 10) rfl (by kernel_rfl) (fun Kont hK => ?_)
    go_simp
    refine hK.out _ _ ?_ (fun hHeld => ?_)
    · exact hHeld.alloc _
    clear hK Kont
    refine callL (i := 11) rfl (by kernel_rfl) (fun Kont hK => ?_)
    refine step_storeB rfl 191 _ _ rfl w1.heap.size #[.int .u64 (v : Int), .int .i64 (n : Int), .slice a1 BL.length c1] rfl rfl _ _ (Blk.new _ _ _) Tryz.writer_size rfl (by simp [Value.oneCell']) ?_
    intro W9 b9 k9
    have kk9 : Keeps w W9 [] := (K1.out.alloc _).trans k9 (fun j hj hl => by have := List.mem_singleton.1 hj; omega)
    refine hK.out _ _ ?_ (fun hHeld => ?_)
    · exact kk9
    clear hK Kont
    have own9 := own_old (own_keeps OW1.out ((Keeps.refl w1 []).alloc (.cells #[.int .u64 0, .int .i64 0, .slice none 0 0] 191))) k9 (fun x hx hm => by have := List.mem_singleton.1 hm; have := (OW1.out.lt x hx).2; omega)
    have hW := wr_of HF.out HLL.out b9 own9 kk9.size
    refine wpAnyH_done (by kernel_rfl) ?_ _
    have hPUT := Lib.hid (put_any _ w.heap.size 1 1 L W9 hW (by decide) (by decide) (by have := HLL.out; omega))
    have KK9 := Lib.hid kk9
    clear hW own9 b9 kk9 k9
    go_wp2_with (first
      | (go_at_call 152; go_loud (refine hPUT.out.mono ?_; rintro e w5 ⟨rfl, wr5, k5⟩; have WR5 := Lib.hid wr5; have K5 := Lib.hid k5; clear wr5 k5))
      | (go_at_call 147; go_loud (refine (wbytes_any _ _ _ _ WR5.out).mono ?_; rintro e w6 ⟨v6, rfl, own6, k6⟩; have OW6 := Lib.hid own6; have K6 := Lib.hid k6; clear own6 k6)))
    go_ret
    have hs := KK9.out.size
    have kk5 := K5.out.low KK9.out (by first | exact Nat.le_refl _ | omega) (Nat.le_refl _)
    exact ⟨_, rfl, own_base OW6.out kk5.size, kk5.then K6.out⟩
  · go_simp
    refine hK.out _ _ ?_ (fun hHeld => ?_)
    · exact (Keeps.refl w []).drew.alloc _
    clear hK Kont
    have k0 := ((Keeps.refl w []).drew).alloc (.cells #[.int .u64 0, .int .i64 0, .slice none 0 0] 191)
    have b0 : Blk (w.drew.alloc (.cells #[.int .u64 0, .int .i64 0, .slice none 0 0] 191)) w.heap.size #[.int .u64 0, .int .i64 0, .slice none 0 0] 191 := Blk.new w.drew _ _
    refine callL (i := 8) rfl (by kernel_rfl) (fun Kont hK => ?_)
    go_simp
    refine (HC.out _ k0).mono ?_
    rintro e w1 ⟨v1, rfl, own1, k1⟩
    obtain ⟨a1, c1, rfl⟩ := own_form own1
    have k1' := k0.then k1
    have b1 := b0.keeps k1 (by simp)
    have OW1 := Lib.hid own1
    have hs1 := k1'.size
    clear own1 k1
    go_wp2_with fail
    refine hK.out _ _ ?_ (fun hHeld => ?_)
    · exact k1'
    clear hK Kont
    refine takeL (i := 9) (v := ?_) rfl (by kernel_rfl) (by kernel_rfl) (by kernel_rfl) (fun _ _ _ h => h) (by rfl) ?_ (by assumption) ?_
    rotate_left
    · (intro w9 hSw; clear hSw; go_simp; (try with_reducible rfl))
    try simp only [Act.put, List.setIfInBounds_toArray, List.set_cons_zero, List.set_cons_succ]
    refine callL (i := 11) rfl (by kernel_rfl) (fun Kont hK => ?_)
    refine step_storeB rfl 191 _ _ rfl w.heap.size #[.int .u64 (v : Int), .int .i64 (n : Int), .slice a1 BL.length c1] rfl rfl _ _ b1 Tryz.writer_size rfl (by simp [Value.oneCell']) ?_
    intro W9 b9 k9
    have kk9 : Keeps w W9 [] := k1'.trans k9 (fun j hj hl => by have := List.mem_singleton.1 hj; omega)
    refine hK.out _ _ ?_ (fun hHeld => ?_)
    · exact kk9
    clear hK Kont
    have own9 := own_old OW1.out k9 (fun x hx hm => by have := List.mem_singleton.1 hm; have := (OW1.out.lt x hx).1; simp at this; omega)
    have hW := wr_of HF.out HLL.out b9 (own_base own9 (by simp)) kk9.size
    refine wpAnyH_done (by kernel_rfl) ?_ _
    have hPUT := Lib.hid (put_any _ w.heap.size 1 1 L W9 hW (by decide) (by decide) (by have := HLL.out; omega))
    have KK9 := Lib.hid kk9
    clear hW own9 b9 kk9 k9
    go_wp2_with (first
      | (go_at_call 152; go_loud (refine hPUT.out.mono ?_; rintro e w5 ⟨rfl, wr5, k5⟩; have WR5 := Lib.hid wr5; have K5 := Lib.hid k5; clear wr5 k5))
      | (go_at_call 147; go_loud (refine (wbytes_any _ _ _ _ WR5.out).mono ?_; rintro e w6 ⟨v6, rfl, own6, k6⟩; have OW6 := Lib.hid own6; have K6 := Lib.hid k6; clear own6 k6)))
    go_ret
    have hs := KK9.out.size
    have kk5 := K5.out.low KK9.out (by first | exact Nat.le_refl _ | omega) (Nat.le_refl _)
    exact ⟨_, rfl, own_base OW6.out kk5.size, kk5.then K6.out⟩


end Go.Proofs.YtophgpnnjphnmaaGreat
