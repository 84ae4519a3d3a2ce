/-
  Walks over package bitin: the backward reader: Skip, Take, Left. (Printed by mkBb.py.)
-/
import Derived.Test.YtcmagccfagijlaaGreatQ3
import Derived.Test.YtcmagccfagijlaaGreatQ14
namespace Go.Proofs.YtcmagccfagijlaaGreat
set_option linter.unusedVariables false
set_option linter.unusedSimpArgs false
set_option linter.unusedSectionVars false
open Go.RowKit

theorem bwdLeft_any (R g : Nat) (B : List Int) (a b : Nat) (w : World) (h : BitR w R g 259 B a b) :
    Calls Tryz.prog 191 #[.pointer (some ⟨R, 0, none⟩)] w fun e w' => e = .returned (.int .i64 ((b - a : Nat) : Int)) ∧ Keeps w w' [] := by
  have HL := Lib.hid (rowLeft_any R g _ B a b w h)
  clear h
  go_enter Tryz.func191, Tryz.ntmps191
  go_wp2_with fail
  refine HL.out.mono ?_
  rintro e w1 ⟨rfl, q, rfl⟩
  go_wp2_with fail
  go_ret
  exact ⟨rfl, (Keeps.refl w []).drewN q⟩

theorem mayE_zero {n : Int} {r : Nat} {s : Int} (hs : s ≠ 0) (h : mayE n r s = 0) : 0 ≤ n ∧ n ≤ 64 ∧ n ≤ (r : Int) := by
  unfold mayE at h
  split at h
  · cases h
  · split at h
    · exact absurd h hs
    · omega

set_option maxRecDepth 100000 in
set_option maxHeartbeats 4000000 in
theorem bwdSkip_any (R g : Nat) (B : List Int) (a b : Nat) (n : Int) (w : World) (h : BitR w R g 259 B a b) :
    Calls Tryz.prog 213 #[.pointer (some ⟨R, 0, none⟩), .int .i64 n] w fun e w' => e = .returned (.int .i64 (mayE n (b - a) 14)) ∧
      if mayE n (b - a) 14 = 0 then BitR w' R g 259 B a (b - n.toNat) ∧ Keeps w w' [R] else ∃ q, w' = w.drewN q := by
  have HM := Lib.hid (rowMay_any R g _ B a b n 14 w h)
  obtain ⟨E, hE⟩ : ∃ E, mayE n (b - a) 14 = E := ⟨_, rfl⟩
  rw [hE] at HM ⊢
  by_cases hE0 : E = 0
  · subst hE0
    simp only [if_true]
    obtain ⟨h1, h2, h3⟩ := mayE_zero (by decide) hE
    obtain ⟨m, rfl⟩ := Int.eq_ofNat_of_zero_le h1
    simp only [Int.toNat_natCast]
    have hab := h.hab
    have hb := h.hb
    have hl := h.len
    obtain ⟨bs, c1, c2, c3⟩ := h.cells
    obtain ⟨A0, k, cp, rfl, -, -⟩ := c2.form
    obtain ⟨D, hD⟩ : ∃ D : Int, (b : Int) - (m : Int) = D := ⟨_, rfl⟩
    have hw1 : wrap64 D = D := IntWalk.wrap64_in _ ⟨by omega, by omega⟩
    have hDb : D = ((b - m : Nat) : Int) := by omega
    have HDB := Lib.hid hDb
    have hne := h.ne
    have HBD := Lib.hid (show B.length ≤ 1000000 ∧ (∀ x ∈ B, 0 ≤ x ∧ x ≤ 255) ∧ a ≤ b - m ∧ b - m ≤ 8 * B.length from ⟨h.len, h.bytes, by omega, by omega⟩)
    have C3 := Lib.hid c3
    clear h hE h1 h2 h3 hab hb hl c3 hDb
    go_enter Tryz.func213, Tryz.ntmps213
    go_wp2_with fail
    refine HM.out.mono ?_
    rintro e w1 ⟨rfl, q, rfl⟩
    replace c1 := c1.drewN q
    replace c2 := c2.drewN q
    have k0 := (Keeps.refl w []).drewN q
    generalize w.drewN q = w1 at *
    have q1 := c1.cell 2
    have f1 := c1.frozen 2
    simp at q1
    go_wp2_with fail
    go_ret
    have kS : Keeps w1 (w1.setCell ⟨R, 2, none⟩ (.int .i64 D)) [R] := (Keeps.refl w1 _).setCell (.inr (by simp)) _
    have d1 : Blk (w1.setCell ⟨R, 2, none⟩ (.int .i64 D)) R #[.slice A0 k cp, .int .i64 (a : Int), .int .i64 D] 259 := by
      have := c1.set 2 (.int .i64 D)
      simpa using this
    have d2 := c2.keepsS kS (fun ad n cp e _ hm => hne (by rw [← C3.out ad n cp e]; simpa using hm))
    exact ⟨rfl, ⟨⟨_, by rw [← HDB.out]; exact d1, d2, C3.out⟩, hne, HBD.out.1, HBD.out.2.1, HBD.out.2.2.1, HBD.out.2.2.2⟩, (k0.mono (S' := [R]) (fun _ h => by cases h)).trans kS (fun x hx _ => hx)⟩
  · simp only [hE0, if_false]
    have hne : (E != 0) = true := by simpa using hE0
    clear h hE
    go_enter Tryz.func213, Tryz.ntmps213
    go_wp2_with (go_at_call 209; go_loud (refine HM.out.mono ?_; rintro e w1 ⟨rfl, q, rfl⟩))
    go_ret
    exact ⟨rfl, _, rfl⟩

set_option maxRecDepth 100000 in
set_option maxHeartbeats 4000000 in
theorem bwdTake_any (R g : Nat) (B : List Int) (a b : Nat) (n : Int) (w : World) (h : BitR w R g 259 B a b) :
    Calls Tryz.prog 189 #[.pointer (some ⟨R, 0, none⟩), .int .i64 n] w fun e w' =>
      if mayE n (b - a) 14 = 0 then e = .returned (.tuple #[.int .u64 (bitsAt B (b - n.toNat) n.toNat : Nat), .int .i64 0]) ∧ BitR w' R g 259 B a (b - n.toNat) ∧ Keeps w w' [R]
      else e = .returned (.tuple #[.int .u64 0, .int .i64 (mayE n (b - a) 14)]) ∧ ∃ q, w' = w.drewN q := by
  have HS := Lib.hid (bwdSkip_any R g B a b n w h)
  obtain ⟨E, hE⟩ : ∃ E, mayE n (b - a) 14 = E := ⟨_, rfl⟩
  rw [hE] at HS ⊢
  by_cases hE0 : E = 0
  · subst hE0
    simp only [if_true] at HS ⊢
    obtain ⟨h1, h2, h3⟩ := mayE_zero (by decide) hE
    obtain ⟨m, rfl⟩ := Int.eq_ofNat_of_zero_le h1
    simp only [Int.toNat_natCast] at HS ⊢
    have hab := h.hab
    have hb := h.hb
    obtain ⟨c, hc⟩ : ∃ c, b - m = c := ⟨_, rfl⟩
    have hcm : c + m ≤ 8 * B.length := by omega
    have hm64 : m ≤ 64 := by omega
    rw [hc] at HS ⊢
    clear h hE h1 h2 h3 hab hb hc
    go_enter Tryz.func189, Tryz.ntmps189
    go_wp2_with fail
    refine HS.out.mono ?_
    rintro e w1 ⟨rfl, bR, kS⟩
    go_wp2_with fail
    obtain ⟨bs, c1, c2, c3⟩ := bR.cells
    obtain ⟨A0, k, cp, rfl, -, -⟩ := c2.form
    have HV := Lib.hid (fun w2 (kk : Keeps w1 w2 []) => value_any R c m _ _ _ B w2 _ (c1.keeps kk (by simp)) (c2.keeps kk) bR.len bR.bytes hcm hm64)
    refine wp_region_held_drew (S := (fun w' => Blk w' R #[.slice A0 k cp, .int .i64 (a : Int), .int .i64 (c : Int)] 259 ∧ Keeps w1 w' [])) (by kernel_rfl) ⟨c1.drew, (Keeps.refl w1 []).drew⟩ (fun hHeld => ?_)
    refine takeL (i := 0) (v := ?_) rfl (by kernel_rfl) (by kernel_rfl) (by kernel_rfl) (fun _ _ _ h => h) (by rfl) ?_ (by assumption) ?_
    rotate_left
    · (intro w9 hSw; have q0 := hSw.1.cell 0; have q1 := hSw.1.cell 1; have q2 := hSw.1.cell 2; simp at q0 q1 q2; clear hSw; go_simp; (try with_reducible rfl))
    try simp only [Act.put, List.setIfInBounds_toArray, List.set_cons_zero, List.set_cons_succ]
    refine takeL (i := 1) (v := ?_) rfl (by kernel_rfl) (by kernel_rfl) (by kernel_rfl) (fun _ _ _ h => h) (by rfl) ?_ (by assumption) ?_
    rotate_left
    · (intro w9 hSw; have q0 := hSw.1.cell 0; have q1 := hSw.1.cell 1; have q2 := hSw.1.cell 2; simp at q0 q1 q2; clear hSw; go_simp; (try with_reducible rfl))
    try simp only [Act.put, List.setIfInBounds_toArray, List.set_cons_zero, List.set_cons_succ]
    refine takeL (i := 2) (v := ?_) rfl (by kernel_rfl) (by kernel_rfl) (by kernel_rfl) (fun _ _ _ h => h) (by rfl) ?_ (by assumption) ?_
    rotate_left
    · (intro w9 hSw; have q0 := hSw.1.cell 0; have q1 := hSw.1.cell 1; have q2 := hSw.1.cell 2; simp at q0 q1 q2; clear hSw; go_simp; (try with_reducible rfl))
    try simp only [Act.put, List.setIfInBounds_toArray, List.set_cons_zero, List.set_cons_succ]
    refine takeL (i := 3) (v := ?_) rfl (by kernel_rfl) (by kernel_rfl) (by kernel_rfl) (fun _ _ _ h => h) (by rfl) ?_ (by assumption) ?_
    rotate_left
    · (intro w9 hSw; have q0 := hSw.1.cell 0; have q1 := hSw.1.cell 1; have q2 := hSw.1.cell 2; simp at q0 q1 q2; clear hSw; go_simp; (try with_reducible rfl))
    try simp only [Act.put, List.setIfInBounds_toArray, List.set_cons_zero, List.set_cons_succ]
    refine takeL (i := 4) (v := ?_) rfl (by kernel_rfl) (by kernel_rfl) (by kernel_rfl) (fun _ _ _ h => h) (by rfl) ?_ (by assumption) ?_
    rotate_left
    · (intro w9 hSw; have q0 := hSw.1.cell 0; have q1 := hSw.1.cell 1; have q2 := hSw.1.cell 2; simp at q0 q1 q2; clear hSw; go_simp; (try with_reducible rfl))
    try simp only [Act.put, List.setIfInBounds_toArray, List.set_cons_zero, List.set_cons_succ]
    refine takeL (i := 5) (v := ?_) rfl (by kernel_rfl) (by kernel_rfl) (by kernel_rfl) (fun _ _ _ h => h) (by rfl) ?_ (by assumption) ?_
    rotate_left
    · (intro w9 hSw; have q0 := hSw.1.cell 0; have q1 := hSw.1.cell 1; have q2 := hSw.1.cell 2; simp at q0 q1 q2; clear hSw; go_simp; (try with_reducible rfl))
    try simp only [Act.put, List.setIfInBounds_toArray, List.set_cons_zero, List.set_cons_succ]
    refine takeL (i := 6) (v := ?_) rfl (by kernel_rfl) (by kernel_rfl) (by kernel_rfl) (fun _ _ _ h => h) (by rfl) ?_ (by assumption) ?_
    rotate_left
    · (intro w9 hSw; have q0 := hSw.1.cell 0; have q1 := hSw.1.cell 1; have q2 := hSw.1.cell 2; simp at q0 q1 q2; clear hSw; go_simp; (try with_reducible rfl))
    try simp only [Act.put, List.setIfInBounds_toArray, List.set_cons_zero, List.set_cons_succ]
    refine takeL (i := 7) (v := ?_) rfl (by kernel_rfl) (by kernel_rfl) (by kernel_rfl) (fun _ _ _ h => h) (by rfl) ?_ (by assumption) ?_
    rotate_left
    · (intro w9 hSw; have q0 := hSw.1.cell 0; have q1 := hSw.1.cell 1; have q2 := hSw.1.cell 2; simp at q0 q1 q2; clear hSw; go_simp; (try with_reducible rfl))
    try simp only [Act.put, List.setIfInBounds_toArray, List.set_cons_zero, List.set_cons_succ]
    refine takeL (i := 8) (v := ?_) rfl (by kernel_rfl) (by kernel_rfl) (by kernel_rfl) (fun _ _ _ h => h) (by rfl) ?_ (by assumption) ?_
    rotate_left
    · (intro w9 hSw; have q0 := hSw.1.cell 0; have q1 := hSw.1.cell 1; have q2 := hSw.1.cell 2; simp at q0 q1 q2; clear hSw; go_simp; (try with_reducible rfl))
    try simp only [Act.put, List.setIfInBounds_toArray, List.set_cons_zero, List.set_cons_succ]
    refine callL (i := 9) rfl (by kernel_rfl) (fun Kont hK => ?_)
    go_simp
    refine (HV.out _ hHeld.2).mono ?_; rintro e w3 ⟨rfl, kk⟩
    go_wp2_with fail
    refine hK.out _ _ ?_ (fun hHeld => ?_)
    · (exact ⟨hHeld.1.keeps kk (by simp), hHeld.2.then kk⟩)
    clear hK Kont
    refine takeL (i := 10) (v := ?_) rfl (by kernel_rfl) (by kernel_rfl) (by kernel_rfl) (fun _ _ _ h => h) (by rfl) ?_ (by assumption) ?_
    rotate_left
    · (intro w9 hSw; clear hSw; go_simp; (try with_reducible rfl))
    try simp only [Act.put, List.setIfInBounds_toArray, List.set_cons_zero, List.set_cons_succ]
    refine takeL (i := 11) (v := ?_) rfl (by kernel_rfl) (by kernel_rfl) (by kernel_rfl) (fun _ _ _ h => h) (by rfl) ?_ (by assumption) ?_
    rotate_left
    · (intro w9 hSw; clear hSw; go_simp; (try with_reducible rfl))
    try simp only [Act.put, List.setIfInBounds_toArray, List.set_cons_zero, List.set_cons_succ]
    refine wpAnyH_done (by kernel_rfl) ?_ _
    go_wp2_with fail
    go_ret2
    exact ⟨rfl, bR.keep hHeld.2, kS.trans hHeld.2 (fun j hj _ => by cases hj)⟩
  · simp only [hE0, if_false] at HS ⊢
    have hne : (E != 0) = true := by simpa using hE0
    clear h hE
    go_enter Tryz.func189, Tryz.ntmps189
    go_wp2_with (go_at_call 213; go_loud (refine HS.out.mono ?_; rintro e w1 ⟨rfl, q, rfl⟩))
    go_ret2
    exact ⟨rfl, _, rfl⟩

/-- How many bits a closed stream has ahead of its end mark. -/
def topB (B : List Int) : Nat := 8 * B.length + Lib.bitLen (B.getD (B.length - 1) 0).toNat - 9

set_option maxRecDepth 100000 in
set_option maxHeartbeats 2000000 in
theorem newBwd_no (v : Value) (B : List Int) (w : World) (hv : RdI .u8 w v B) (hl : B.length ≤ 1000000) (hb : B.getD (B.length - 1) 0 = 0) :
    Calls Tryz.prog 188 #[v] w fun e w' => e = .returned (.tuple #[.pointer none, .int .i64 14]) ∧ w' = w := by
  obtain ⟨A0, n, cp0, rfl, hnl, -⟩ := hv.form
  by_cases hn0 : n = 0
  · subst hn0
    clear hv hnl hb hl
    go_enter Tryz.func188, Tryz.ntmps188
    go_wp2_with fail
    go_ret2
    exact ⟨rfl, rfl⟩
  · obtain ⟨m, rfl⟩ : ∃ m, n = m + 1 := ⟨n - 1, by omega⟩
    obtain ⟨y, hy⟩ : ∃ y, B[m]? = some y := ⟨_, List.getElem?_eq_getElem (by omega)⟩
    have HY : B.getD (B.length - 1) 0 = y := by
      rw [← hnl, Nat.add_sub_cancel, List.getD_eq_getElem?_getD, hy]; rfl
    rw [HY] at hb
    subst hb
    obtain ⟨bb, o, rfl, hbb, hc⟩ := hv.at hy
    have hcap := hv.cap
    have hm : m ≤ 1000000 := by omega
    have hz : ((m : Int) + 1 == 0) = false := by simp; omega
    clear hv hnl hy HY hl
    go_enter Tryz.func188, Tryz.ntmps188
    go_wp2_with fail
    go_ret2
    exact ⟨rfl, rfl⟩

theorem bitLen8 : ∀ x : Fin 256, Lib.bitLen x.val ≤ 8 ∧ (x.val ≠ 0 → 1 ≤ Lib.bitLen x.val) := by decide +kernel

set_option maxRecDepth 100000 in
set_option maxHeartbeats 4000000 in
theorem newBwd_yes (v : Value) (B : List Int) (w : World) (hv : RdI .u8 w v B) (hl : B.length ≤ 1000000) (hby : ∀ x ∈ B, 0 ≤ x ∧ x ≤ 255) (hb : B.getD (B.length - 1) 0 ≠ 0) :
    Calls Tryz.prog 188 #[v] w fun e w' => ∃ R g, e = .returned (.tuple #[.pointer (some ⟨R, 0, none⟩), .int .i64 0]) ∧ BitR w' R g 259 B 0 (topB B) ∧ w.heap.size ≤ R ∧ w.heap.size ≤ g ∧ Keeps w w' [] := by
  have HC := Lib.hid (fun w1 (k : Keeps w w1 []) => cloneb_any v B w1 (hv.keeps k) hl)
  obtain ⟨A0, n, cp0, rfl, hnl, -⟩ := hv.form
  have hn0 : n ≠ 0 := fun h0 => by
    subst h0
    have : B = [] := List.eq_nil_of_length_eq_zero hnl.symm
    subst this
    exact hb rfl
  obtain ⟨m, rfl⟩ : ∃ m, n = m + 1 := ⟨n - 1, by omega⟩
  obtain ⟨y, hy⟩ : ∃ y, B[m]? = some y := ⟨_, List.getElem?_eq_getElem (by omega)⟩
  have HY : B.getD (B.length - 1) 0 = y := by
    rw [← hnl, Nat.add_sub_cancel, List.getD_eq_getElem?_getD, hy]; rfl
  obtain ⟨y1, y2⟩ := hby y (List.mem_of_getElem? hy)
  obtain ⟨yn, rfl⟩ := Int.eq_ofNat_of_zero_le y1
  have hyn : yn ≤ 255 := by omega
  have hyz : yn ≠ 0 := fun h0 => hb (by rw [HY, h0]; rfl)
  obtain ⟨bl1, bl2⟩ := bitLen8 ⟨yn, by omega⟩
  replace bl2 := bl2 hyz
  dsimp only at bl1 bl2
  have HTOP : Hid (topB B = 8 * (m + 1) + Lib.bitLen yn - 9 ∧ topB B ≤ 8 * B.length) := by
    have e : topB B = 8 * (m + 1) + Lib.bitLen yn - 9 := by rw [topB, HY, hnl, Int.toNat_natCast]
    exact ⟨e, by rw [e]; omega⟩
  have HL8 := Lib.hid (fun w1 => Tryz.bits_Len8 (yn : Int) w1 y1 y2)
  simp only [Int.toNat_natCast] at HL8
  obtain ⟨bb, o, rfl, hbb, -⟩ := hv.at hy
  have hcap := hv.cap
  have HCELL := Lib.hid (fun w9 (k : Keeps w w9 []) => (by
    obtain ⟨b', o', e', -, hc'⟩ := (hv.keeps k).at hy
    cases e'
    exact hc' : w9.cell? ⟨bb, o + m, none⟩ = some (.int .u8 (yn : Int))))
  have hm : m ≤ 1000000 := by omega
  have hz : ((m : Int) + 1 == 0) = false := by simp; omega
  have hyb : ((yn : Int) == 0) = false := by simp; omega
  have hmm0 : (0 : Int) ≤ (m : Int) := by omega
  have hmm1 : (m : Int) < (m : Int) + 1 := by omega
  have hmm2 : (m : Int) < ((m + 1 : Nat) : Int) := by omega
  obtain ⟨L8, hL8⟩ : ∃ L, Lib.bitLen yn = L := ⟨_, rfl⟩
  rw [hL8] at bl1 bl2 HTOP HL8
  obtain ⟨X8, hX8⟩ : ∃ D : Int, 8 * ((m : Int) + 1) = D := ⟨_, rfl⟩
  obtain ⟨X9, hX9⟩ : ∃ D : Int, X8 - 9 = D := ⟨_, rfl⟩
  obtain ⟨XT, hXT⟩ : ∃ D : Int, X9 + (L8 : Int) = D := ⟨_, rfl⟩
  have m0 : IntKind.i64.wrap (m : Int) = (m : Int) := by simp [IntKind.wrap, IntKind.signed, IntKind.bits]; omega
  have m1 : IntKind.i64.wrap X8 = X8 := by simp [IntKind.wrap, IntKind.signed, IntKind.bits]; omega
  have m2 : IntKind.i64.wrap X9 = X9 := by simp [IntKind.wrap, IntKind.signed, IntKind.bits]; omega
  have m3 : IntKind.i64.wrap XT = XT := by simp [IntKind.wrap, IntKind.signed, IntKind.bits]; omega
  have HXT := Lib.hid (show XT = ((8 * (m + 1) + L8 - 9 : Nat) : Int) by omega)
  have HBY := Lib.hid (show B.length ≤ 1000000 ∧ ∀ x ∈ B, 0 ≤ x ∧ x ≤ 255 from ⟨hl, hby⟩)
  obtain ⟨q0, -⟩ := (show w.cell? ⟨bb, o + m, none⟩ = some (.int .u8 (yn : Int)) ∧ True from ⟨HCELL.out w (Keeps.refl w []), trivial⟩)
  clear hv hnl hl hby hb hy HY hL8 hn0 hyz
  go_enter Tryz.func188, Tryz.ntmps188
  go_wp2_with fail
  clear q0
  refine wp_region_held_drew (S := (fun w' => Keeps w w' [])) (by kernel_rfl) (Keeps.refl w []).drew (fun hHeld => ?_)
  refine takeL (i := 0) (v := ?_) rfl (by kernel_rfl) (by kernel_rfl) (by kernel_rfl) (fun _ _ _ h => h) (by rfl) ?_ (by assumption) ?_
  rotate_left
  · (intro w9 hSw; have q0 := HCELL.out w9 hSw; clear hSw; go_simp; (try with_reducible rfl))
  try simp only [Act.put, List.setIfInBounds_toArray, List.set_cons_zero, List.set_cons_succ]
  refine takeL (i := 2) (v := ?_) rfl (by kernel_rfl) (by kernel_rfl) (by kernel_rfl) (fun _ _ _ h => h) (by rfl) ?_ (by assumption) ?_
  rotate_left
  · (intro w9 hSw; have q0 := HCELL.out w9 hSw; clear hSw; go_simp; (try with_reducible rfl))
  try simp only [Act.put, List.setIfInBounds_toArray, List.set_cons_zero, List.set_cons_succ]
  refine takeL (i := 3) (v := ?_) rfl (by kernel_rfl) (by kernel_rfl) (by kernel_rfl) (fun _ _ _ h => h) (by rfl) ?_ (by assumption) ?_
  rotate_left
  · (intro w9 hSw; have q0 := HCELL.out w9 hSw; clear hSw; go_simp; (try with_reducible rfl))
  try simp only [Act.put, List.setIfInBounds_toArray, List.set_cons_zero, List.set_cons_succ]
  refine takeL (i := 4) (v := ?_) rfl (by kernel_rfl) (by kernel_rfl) (by kernel_rfl) (fun _ _ _ h => h) (by rfl) ?_ (by assumption) ?_
  rotate_left
  · (intro w9 hSw; have q0 := HCELL.out w9 hSw; clear hSw; go_simp; (try with_reducible rfl))
  try simp only [Act.put, List.setIfInBounds_toArray, List.set_cons_zero, List.set_cons_succ]
  refine takeL (i := 5) (v := ?_) rfl (by kernel_rfl) (by kernel_rfl) (by kernel_rfl) (fun _ _ _ h => h) (by rfl) ?_ (by assumption) ?_
  rotate_left
  · (intro w9 hSw; have q0 := HCELL.out w9 hSw; clear hSw; go_simp; (try with_reducible rfl))
  try simp only [Act.put, List.setIfInBounds_toArray, List.set_cons_zero, List.set_cons_succ]
  refine takeL (i := 6) (v := ?_) rfl (by kernel_rfl) (by kernel_rfl) (by kernel_rfl) (fun _ _ _ h => h) (by rfl) ?_ (by assumption) ?_
  rotate_left
  · (intro w9 hSw; have q0 := HCELL.out w9 hSw; clear hSw; go_simp; (try with_reducible rfl))
  try simp only [Act.put, List.setIfInBounds_toArray, List.set_cons_zero, List.set_cons_succ]
  refine takeL (i := 7) (v := ?_) rfl (by kernel_rfl) (by kernel_rfl) (by kernel_rfl) (fun _ _ _ h => h) (by rfl) ?_ (by assumption) ?_
  rotate_left
  · (intro w9 hSw; have q0 := HCELL.out w9 hSw; clear hSw; go_simp; (try with_reducible rfl))
  try simp only [Act.put, List.setIfInBounds_toArray, List.set_cons_zero, List.set_cons_succ]
  refine takeL (i := 8) (v := ?_) rfl (by kernel_rfl) (by kernel_rfl) (by kernel_rfl) (fun _ _ _ h => h) (by rfl) ?_ (by assumption) ?_
  rotate_left
  · (intro w9 hSw; have q0 := HCELL.out w9 hSw; clear hSw; go_simp; (try with_reducible rfl))
  try simp only [Act.put, List.setIfInBounds_toArray, List.set_cons_zero, List.set_cons_succ]
  refine takeL (i := 9) (v := ?_) rfl (by kernel_rfl) (by kernel_rfl) (by kernel_rfl) (fun _ _ _ h => h) (by rfl) ?_ (by assumption) ?_
  rotate_left
  · (intro w9 hSw; have q0 := HCELL.out w9 hSw; clear hSw; go_simp; (try with_reducible rfl))
  try simp only [Act.put, List.setIfInBounds_toArray, List.set_cons_zero, List.set_cons_succ]
  refine takeL (i := 10) (v := ?_) rfl (by kernel_rfl) (by kernel_rfl) (by kernel_rfl) (fun _ _ _ h => h) (by rfl) ?_ (by assumption) ?_
  rotate_left
  · (intro w9 hSw; have q0 := HCELL.out w9 hSw; clear hSw; go_simp; (try with_reducible rfl))
  try simp only [Act.put, List.setIfInBounds_toArray, List.set_cons_zero, List.set_cons_succ]
  refine takeL (i := 11) (v := ?_) rfl (by kernel_rfl) (by kernel_rfl) (by kernel_rfl) (fun _ _ _ h => h) (by rfl) ?_ (by assumption) ?_
  rotate_left
  · (intro w9 hSw; have q0 := HCELL.out w9 hSw; clear hSw; go_simp; (try with_reducible rfl))
  try simp only [Act.put, List.setIfInBounds_toArray, List.set_cons_zero, List.set_cons_succ]
  refine callL (i := 1) rfl (by kernel_rfl) (fun Kont hK => ?_)
  go_simp
  refine (HC.out _ hHeld).mono ?_; rintro e w3 ⟨v3, rfl, own3, kk⟩; obtain ⟨a3, c3, rfl⟩ := own_form own3; have kk3 := hHeld.then kk
  go_wp2_with fail
  refine hK.out _ _ ?_ (fun hHeld => ?_)
  · (exact kk3)
  clear hK Kont
  refine callL (i := 12) rfl (by kernel_rfl) (fun Kont hK => ?_)
  go_simp
  refine (HL8.out _).mono ?_; rintro e w4 ⟨rfl, rfl⟩
  go_wp2_with fail
  refine hK.out _ _ ?_ (fun hHeld => ?_)
  · (exact hHeld)
  clear hK Kont
  refine takeL (i := 13) (v := ?_) rfl (by kernel_rfl) (by kernel_rfl) (by kernel_rfl) (fun _ _ _ h => h) (by rfl) ?_ (by assumption) ?_
  rotate_left
  · (intro w9 hSw; clear hSw; go_simp; (try with_reducible rfl))
  try simp only [Act.put, List.setIfInBounds_toArray, List.set_cons_zero, List.set_cons_succ]
  refine takeL (i := 14) (v := ?_) rfl (by kernel_rfl) (by kernel_rfl) (by kernel_rfl) (fun _ _ _ h => h) (by rfl) ?_ (by assumption) ?_
  rotate_left
  · (intro w9 hSw; clear hSw; go_simp; (try with_reducible rfl))
  try simp only [Act.put, List.setIfInBounds_toArray, List.set_cons_zero, List.set_cons_succ]
  refine takeL (i := 15) (v := ?_) rfl (by kernel_rfl) (by kernel_rfl) (by kernel_rfl) (fun _ _ _ h => h) (by rfl) ?_ (by assumption) ?_
  rotate_left
  · (intro w9 hSw; clear hSw; go_simp; (try with_reducible rfl))
  try simp only [Act.put, List.setIfInBounds_toArray, List.set_cons_zero, List.set_cons_succ]
  refine callL (i := 16) rfl (by kernel_rfl) (fun Kont hK => ?_)
  go_simp
  refine hK.out _ _ ?_ (fun hHeld => ?_)
  · exact hHeld.alloc _
  clear hK Kont
  refine takeL (i := 17) (v := ?_) rfl (by kernel_rfl) (by kernel_rfl) (by kernel_rfl) (fun _ _ _ h => h) (by rfl) ?_ (by assumption) ?_
  rotate_left
  · (intro w9 hSw; clear hSw; go_simp; (try with_reducible rfl))
  try simp only [Act.put, List.setIfInBounds_toArray, List.set_cons_zero, List.set_cons_succ]
  refine takeL (i := 18) (v := ?_) rfl (by kernel_rfl) (by kernel_rfl) (by kernel_rfl) (fun _ _ _ h => h) (by rfl) ?_ (by assumption) ?_
  rotate_left
  · (intro w9 hSw; clear hSw; go_simp; (try with_reducible rfl))
  try simp only [Act.put, List.setIfInBounds_toArray, List.set_cons_zero, List.set_cons_succ]
  refine wpAnyH_done (by kernel_rfl) ?_ _
  go_wp2_with fail
  go_ret2
  have r1 := own_reads own3
  have hs1 := kk3.size
  have hlt : ∀ ad m c, Value.slice a3 B.length c3 = .slice (some ad) m c → w.heap.size ≤ ad.block ∧ ad.block < w4.heap.size := fun ad m c he => own3.lt ad.block (by cases he; rfl)
  obtain ⟨g, hg, hge, hgn⟩ : ∃ g, (∀ ad m c, Value.slice a3 B.length c3 = .slice (some ad) m c → ad.block = g) ∧ w.heap.size ≤ g ∧ g ≠ w4.heap.size := by
    cases a3 with
    | none => exact ⟨w4.heap.size + 1, (fun ad m c he => by cases he), by omega, by omega⟩
    | some ad => exact ⟨ad.block, (fun ad' m c he => by cases he; rfl), (hlt ad _ _ rfl).1, by have := (hlt ad _ _ rfl).2; omega⟩
  have eT : XT = ((topB B : Nat) : Int) := by rw [HXT.out, HTOP.out.1]
  rw [eT] at hHeld ⊢
  refine ⟨w4.heap.size, g, rfl, ⟨⟨_, Blk.new w4 _ _, r1.keeps ((Keeps.refl w4 []).alloc _), hg⟩, hgn, HBY.out.1, HBY.out.2, Nat.zero_le _, HTOP.out.2⟩, hs1, hge, hHeld⟩


end Go.Proofs.YtcmagccfagijlaaGreat
