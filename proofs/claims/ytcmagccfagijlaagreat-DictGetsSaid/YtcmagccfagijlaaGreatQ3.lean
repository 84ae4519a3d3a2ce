/-
  Walks over package bitin: readers of bits: left, may, Forward's Take, Align, New.
-/
import Derived.Test.YtcmagccfagijlaaGreatQ2
import Derived.Test.YtcmagccfagijlaaGreatQ1
namespace Go.Proofs.YtcmagccfagijlaaGreat
set_option linter.unusedVariables false
set_option linter.unusedSimpArgs false
set_option linter.unusedSectionVars false
open Go.RowKit

/-- A reader of bits at block R: of the bytes B, which lie in block g, the bits from a up to b are not read. -/
structure BitR (w : World) (R g : Nat) (TF : TypeId) (B : List Int) (a b : Nat) : Prop where
  cells : ∃ bs, Blk w R #[bs, .int .i64 a, .int .i64 b] TF ∧ RdI .u8 w bs B ∧ (∀ ad n c, bs = .slice (some ad) n c → ad.block = g)
  ne : g ≠ R
  len : B.length ≤ 1000000
  bytes : ∀ x ∈ B, 0 ≤ x ∧ x ≤ 255
  hab : a ≤ b
  hb : b ≤ 8 * B.length
theorem BitR.keeps {w w' : World} {R g : Nat} {TF : TypeId} {B : List Int} {a b : Nat} {S : List Nat} (h : BitR w R g TF B a b) (k : Keeps w w' S) (h1 : R ∉ S) (h2 : g ∉ S) : BitR w' R g TF B a b := by
  obtain ⟨bs, c1, c2, c3⟩ := h.cells
  exact ⟨⟨bs, c1.keeps k h1, c2.keepsS k (fun ad n cp e _ hm => h2 (c3 ad n cp e ▸ hm)), c3⟩, h.ne, h.len, h.bytes, h.hab, h.hb⟩
theorem BitR.keep {w w' : World} {R g : Nat} {TF : TypeId} {B : List Int} {a b : Nat} (h : BitR w R g TF B a b) (k : Keeps w w' []) : BitR w' R g TF B a b := h.keeps k (by simp) (by simp)

theorem rowLeft_any (R g : Nat) (TF : TypeId) (B : List Int) (a b : Nat) (w : World) (h : BitR w R g TF B a b) :
    Calls Tryz.prog 214 #[.pointer (some ⟨R, 0, none⟩)] w fun e w' => e = .returned (.int .i64 ((b - a : Nat) : Int)) ∧ ∃ m, w' = w.drewN m := by
  obtain ⟨bs, c1, c2, c3⟩ := h.cells
  have hab := h.hab
  have hb := h.hb
  have hl := h.len
  have q1 := c1.cell 1
  have q2 := c1.cell 2
  simp at q1 q2
  obtain ⟨D, hD⟩ : ∃ D : Int, (b : Int) - (a : Int) = D := ⟨_, rfl⟩
  have m1 : IntKind.i64.wrap D = D := by simp [IntKind.wrap, IntKind.signed, IntKind.bits]; omega
  have he : ((b - a : Nat) : Int) = D := by omega
  rw [he]
  clear c1 c2 c3 h he hab hb hl
  go_enter Tryz.func214, Tryz.ntmps214
  go_wp2_with fail
  go_quiet (fail)
  go_wp2_with fail
  go_ret
  exact ⟨rfl, _, rfl⟩

/-- The error of a reader that is asked for n bits of r. -/
def mayE (n : Int) (r : Nat) (short : Int) : Int := if n < 0 ∨ 64 < n then 2 else if (r : Int) < n then short else 0
theorem rowMay_any (R g : Nat) (TF : TypeId) (B : List Int) (a b : Nat) (n short : Int) (w : World) (h : BitR w R g TF B a b) :
    Calls Tryz.prog 209 #[.pointer (some ⟨R, 0, none⟩), .int .i64 n, .int .i64 short] w fun e w' => e = .returned (.int .i64 (mayE n (b - a) short)) ∧ ∃ m, w' = w.drewN m := by
  have HL := Lib.hid (rowLeft_any R g TF B a b w h)
  obtain ⟨r, hr⟩ : ∃ r, b - a = r := ⟨_, rfl⟩
  rw [hr] at HL ⊢
  clear h hr
  obtain ⟨E, hE⟩ : ∃ E, mayE n r short = E := ⟨_, rfl⟩
  have HE := Lib.hid hE
  rw [hE]
  clear hE
  obtain ⟨R0, e0⟩ : ∃ R, decide (n < 0) = R := ⟨_, rfl⟩
  obtain ⟨R1, e1⟩ : ∃ R, decide (64 < n) = R := ⟨_, rfl⟩
  obtain ⟨R2, e2⟩ : ∃ R, decide ((r : Int) < n) = R := ⟨_, rfl⟩
  have HF : Hid ((R0 = true ∨ R1 = true → E = 2) ∧ (R0 = false → R1 = false → R2 = true → E = short) ∧ (R0 = false → R1 = false → R2 = false → E = 0)) := by
    show _ ∧ _ ∧ _
    rw [← HE.out, ← e0, ← e1, ← e2]
    unfold mayE
    refine ⟨fun h => ?_, fun h1 h2 h3 => ?_, fun h1 h2 h3 => ?_⟩
    · simp at h
      rw [if_pos h]
    · simp at h1 h2 h3
      rw [if_neg (by omega), if_pos h3]
    · simp at h1 h2 h3
      rw [if_neg (by omega), if_neg (by omega)]
  clear HE
  go_enter Tryz.func209, Tryz.ntmps209
  go_wp2_with (go_at_call 214; go_loud (refine HL.out.mono ?_; rintro e w1 ⟨rfl, q, rfl⟩))
  all_goals
    clear e0 e1 e2
    go_ret
  all_goals first
    | exact ⟨by rw [HF.out.1 (by simp_all)]; rfl, 0, rfl⟩
    | exact ⟨by rw [HF.out.1 (by simp_all)]; rfl, _, rfl⟩
    | exact ⟨by rw [HF.out.2.1 (by simp_all) (by simp_all) (by simp_all)]; rfl, _, rfl⟩
    | exact ⟨by rw [HF.out.2.2 (by simp_all) (by simp_all) (by simp_all)]; rfl, _, rfl⟩

set_option maxRecDepth 100000 in
set_option maxHeartbeats 4000000 in
theorem fwdTake_any (R g : Nat) (B : List Int) (a b : Nat) (n : Int) (w : World) (h : BitR w R g 195 B a b) :
    Calls Tryz.prog 183 #[.pointer (some ⟨R, 0, none⟩), .int .i64 n] w fun e w' =>
      if mayE n (b - a) 3 = 0 then e = .returned (.tuple #[.int .u64 (bitsAt B a n.toNat : Nat), .int .i64 0]) ∧ BitR w' R g 195 B (a + n.toNat) b ∧ Keeps w w' [R]
      else e = .returned (.tuple #[.int .u64 0, .int .i64 (mayE n (b - a) 3)]) ∧ ∃ q, w' = w.drewN q := by
  have HM := Lib.hid (rowMay_any R g _ B a b n 3 w h)
  obtain ⟨E, hE⟩ : ∃ E, mayE n (b - a) 3 = E := ⟨_, rfl⟩
  rw [hE] at HM ⊢
  by_cases hE0 : E = 0
  · subst hE0
    simp only [if_true]
    obtain ⟨h1, h2, h3⟩ : 0 ≤ n ∧ n ≤ 64 ∧ n ≤ ((b - a : Nat) : Int) := by
      unfold mayE at hE
      split at hE
      · cases hE
      · split at hE
        · cases hE
        · omega
    obtain ⟨m, rfl⟩ := Int.eq_ofNat_of_zero_le h1
    simp only [Int.toNat_natCast]
    have hab := h.hab
    have hb := h.hb
    have hl := h.len
    obtain ⟨bs, c1, c2, c3⟩ := h.cells
    obtain ⟨A0, k, cp, rfl, -, -⟩ := c2.form
    have ham : ((a + m : Nat) : Int) = (a : Int) + (m : Int) := by omega
    have hw1 : wrap64 ((a : Int) + (m : Int)) = (a : Int) + (m : Int) := IntWalk.wrap64_in _ ⟨by omega, by omega⟩
    have hw2 : wrap64 ((a : Int) + (m : Int) - (m : Int)) = (a : Int) := by rw [IntWalk.wrap64_in _ ⟨by omega, by omega⟩]; omega
    have m1 : IntKind.i64.wrap (a : Int) = (a : Int) := by simp [IntKind.wrap, IntKind.signed, IntKind.bits]; omega
    have m2 : wrap64 (a : Int) = (a : Int) := IntWalk.wrap64_in _ ⟨by omega, by omega⟩
    have hne := h.ne
    have hbnd : a + m ≤ 8 * B.length ∧ a + m ≤ b := ⟨by omega, by omega⟩
    have HBD := Lib.hid (show B.length ≤ 1000000 ∧ (∀ x ∈ B, 0 ≤ x ∧ x ≤ 255) ∧ a + m ≤ 8 * B.length ∧ a + m ≤ b ∧ b ≤ 8 * B.length ∧ m ≤ 64 from ⟨h.len, h.bytes, hbnd.1, hbnd.2, hb, by omega⟩)
    have C3 := Lib.hid c3
    clear h hE h1 h2 h3 hab hb hl hbnd c3
    go_enter Tryz.func183, Tryz.ntmps183
    go_wp2_with fail
    refine HM.out.mono ?_
    rintro e w1 ⟨rfl, q, rfl⟩
    replace c1 := c1.drewN q
    replace c2 := c2.drewN q
    have k0 := (Keeps.refl w []).drewN q
    generalize w.drewN q = w1 at *
    have q1 := c1.cell 1
    have f1 := c1.frozen 1
    simp at q1
    go_wp2_with fail
    have kS : Keeps w1 (w1.setCell ⟨R, 1, none⟩ (.int .i64 ((a : Int) + (m : Int)))) [R] := (Keeps.refl w1 _).setCell (.inr (by simp)) _
    have d1 : Blk (w1.setCell ⟨R, 1, none⟩ (.int .i64 ((a : Int) + (m : Int)))) R #[.slice A0 k cp, .int .i64 ((a : Int) + (m : Int)), .int .i64 b] 195 := by
      have := c1.set 1 (.int .i64 ((a : Int) + (m : Int)))
      simpa using this
    have d2 := c2.keepsS kS (fun ad n cp e _ hm => hne (by rw [← C3.out ad n cp e]; simpa using hm))
    have HV := Lib.hid (fun w2 (kk : Keeps (w1.setCell ⟨R, 1, none⟩ (.int .i64 ((a : Int) + (m : Int)))) w2 []) => value_any R a m _ _ _ B w2 _ (d1.keeps kk (by simp)) (d2.keeps kk) HBD.out.1 HBD.out.2.1 HBD.out.2.2.1 HBD.out.2.2.2.2.2)
    have KS := Lib.hid kS
    clear kS q1 f1
    generalize (w1.setCell ⟨R, 1, none⟩ (.int .i64 ((a : Int) + (m : Int)))) = W1 at *
    refine wp_region_held_drew (S := (fun w' => Blk w' R #[.slice A0 k cp, .int .i64 ((a : Int) + (m : Int)), .int .i64 b] 195 ∧ Keeps W1 w' [])) (by kernel_rfl) ⟨d1.drew, (Keeps.refl W1 []).drew⟩ (fun hHeld => ?_)
    refine takeL (i := 0) (v := ?_) rfl (by kernel_rfl) (by kernel_rfl) (by kernel_rfl) (fun _ _ _ h => h) (by rfl) ?_ (by assumption) ?_
    rotate_left
    · (intro w9 hSw; have q0 := hSw.1.cell 0; have q1 := hSw.1.cell 1; have q2 := hSw.1.cell 2; simp at q0 q1 q2; clear hSw; go_simp; (try with_reducible rfl))
    try simp only [Act.put, List.setIfInBounds_toArray, List.set_cons_zero, List.set_cons_succ]
    refine takeL (i := 1) (v := ?_) rfl (by kernel_rfl) (by kernel_rfl) (by kernel_rfl) (fun _ _ _ h => h) (by rfl) ?_ (by assumption) ?_
    rotate_left
    · (intro w9 hSw; have q0 := hSw.1.cell 0; have q1 := hSw.1.cell 1; have q2 := hSw.1.cell 2; simp at q0 q1 q2; clear hSw; go_simp; (try with_reducible rfl))
    try simp only [Act.put, List.setIfInBounds_toArray, List.set_cons_zero, List.set_cons_succ]
    refine takeL (i := 2) (v := ?_) rfl (by kernel_rfl) (by kernel_rfl) (by kernel_rfl) (fun _ _ _ h => h) (by rfl) ?_ (by assumption) ?_
    rotate_left
    · (intro w9 hSw; have q0 := hSw.1.cell 0; have q1 := hSw.1.cell 1; have q2 := hSw.1.cell 2; simp at q0 q1 q2; clear hSw; go_simp; (try with_reducible rfl))
    try simp only [Act.put, List.setIfInBounds_toArray, List.set_cons_zero, List.set_cons_succ]
    refine takeL (i := 3) (v := ?_) rfl (by kernel_rfl) (by kernel_rfl) (by kernel_rfl) (fun _ _ _ h => h) (by rfl) ?_ (by assumption) ?_
    rotate_left
    · (intro w9 hSw; have q0 := hSw.1.cell 0; have q1 := hSw.1.cell 1; have q2 := hSw.1.cell 2; simp at q0 q1 q2; clear hSw; go_simp; (try with_reducible rfl))
    try simp only [Act.put, List.setIfInBounds_toArray, List.set_cons_zero, List.set_cons_succ]
    refine takeL (i := 4) (v := ?_) rfl (by kernel_rfl) (by kernel_rfl) (by kernel_rfl) (fun _ _ _ h => h) (by rfl) ?_ (by assumption) ?_
    rotate_left
    · (intro w9 hSw; have q0 := hSw.1.cell 0; have q1 := hSw.1.cell 1; have q2 := hSw.1.cell 2; simp at q0 q1 q2; clear hSw; go_simp; (try with_reducible rfl))
    try simp only [Act.put, List.setIfInBounds_toArray, List.set_cons_zero, List.set_cons_succ]
    refine takeL (i := 5) (v := ?_) rfl (by kernel_rfl) (by kernel_rfl) (by kernel_rfl) (fun _ _ _ h => h) (by rfl) ?_ (by assumption) ?_
    rotate_left
    · (intro w9 hSw; have q0 := hSw.1.cell 0; have q1 := hSw.1.cell 1; have q2 := hSw.1.cell 2; simp at q0 q1 q2; clear hSw; go_simp; (try with_reducible rfl))
    try simp only [Act.put, List.setIfInBounds_toArray, List.set_cons_zero, List.set_cons_succ]
    refine takeL (i := 6) (v := ?_) rfl (by kernel_rfl) (by kernel_rfl) (by kernel_rfl) (fun _ _ _ h => h) (by rfl) ?_ (by assumption) ?_
    rotate_left
    · (intro w9 hSw; have q0 := hSw.1.cell 0; have q1 := hSw.1.cell 1; have q2 := hSw.1.cell 2; simp at q0 q1 q2; clear hSw; go_simp; (try with_reducible rfl))
    try simp only [Act.put, List.setIfInBounds_toArray, List.set_cons_zero, List.set_cons_succ]
    refine takeL (i := 7) (v := ?_) rfl (by kernel_rfl) (by kernel_rfl) (by kernel_rfl) (fun _ _ _ h => h) (by rfl) ?_ (by assumption) ?_
    rotate_left
    · (intro w9 hSw; have q0 := hSw.1.cell 0; have q1 := hSw.1.cell 1; have q2 := hSw.1.cell 2; simp at q0 q1 q2; clear hSw; go_simp; (try with_reducible rfl))
    try simp only [Act.put, List.setIfInBounds_toArray, List.set_cons_zero, List.set_cons_succ]
    refine takeL (i := 8) (v := ?_) rfl (by kernel_rfl) (by kernel_rfl) (by kernel_rfl) (fun _ _ _ h => h) (by rfl) ?_ (by assumption) ?_
    rotate_left
    · (intro w9 hSw; have q0 := hSw.1.cell 0; have q1 := hSw.1.cell 1; have q2 := hSw.1.cell 2; simp at q0 q1 q2; clear hSw; go_simp; (try with_reducible rfl))
    try simp only [Act.put, List.setIfInBounds_toArray, List.set_cons_zero, List.set_cons_succ]
    refine takeL (i := 9) (v := ?_) rfl (by kernel_rfl) (by kernel_rfl) (by kernel_rfl) (fun _ _ _ h => h) (by rfl) ?_ (by assumption) ?_
    rotate_left
    · (intro w9 hSw; have q0 := hSw.1.cell 0; have q1 := hSw.1.cell 1; have q2 := hSw.1.cell 2; simp at q0 q1 q2; clear hSw; go_simp; (try with_reducible rfl))
    try simp only [Act.put, List.setIfInBounds_toArray, List.set_cons_zero, List.set_cons_succ]
    refine takeL (i := 10) (v := ?_) rfl (by kernel_rfl) (by kernel_rfl) (by kernel_rfl) (fun _ _ _ h => h) (by rfl) ?_ (by assumption) ?_
    rotate_left
    · (intro w9 hSw; have q0 := hSw.1.cell 0; have q1 := hSw.1.cell 1; have q2 := hSw.1.cell 2; simp at q0 q1 q2; clear hSw; go_simp; (try with_reducible rfl))
    try simp only [Act.put, List.setIfInBounds_toArray, List.set_cons_zero, List.set_cons_succ]
    refine callL (i := 11) rfl (by kernel_rfl) (fun Kont hK => ?_)
    go_simp
    refine (HV.out _ hHeld.2).mono ?_; rintro e w3 ⟨rfl, kk⟩
    go_wp2_with fail
    refine hK.out _ _ ?_ (fun hHeld => ?_)
    · (exact ⟨hHeld.1.keeps kk (by simp), hHeld.2.then kk⟩)
    clear hK Kont
    refine takeL (i := 12) (v := ?_) rfl (by kernel_rfl) (by kernel_rfl) (by kernel_rfl) (fun _ _ _ h => h) (by rfl) ?_ (by assumption) ?_
    rotate_left
    · (intro w9 hSw; clear hSw; go_simp; (try with_reducible rfl))
    try simp only [Act.put, List.setIfInBounds_toArray, List.set_cons_zero, List.set_cons_succ]
    refine takeL (i := 13) (v := ?_) rfl (by kernel_rfl) (by kernel_rfl) (by kernel_rfl) (fun _ _ _ h => h) (by rfl) ?_ (by assumption) ?_
    rotate_left
    · (intro w9 hSw; clear hSw; go_simp; (try with_reducible rfl))
    try simp only [Act.put, List.setIfInBounds_toArray, List.set_cons_zero, List.set_cons_succ]
    refine wpAnyH_done (by kernel_rfl) ?_ _
    go_wp2_with fail
    go_ret2
    refine ⟨rfl, ⟨⟨_, by rw [ham]; exact hHeld.1, d2.keeps hHeld.2, C3.out⟩, hne, HBD.out.1, HBD.out.2.1, HBD.out.2.2.2.1, HBD.out.2.2.2.2.1⟩, ?_⟩
    exact (k0.mono (S' := [R]) (fun _ h => by cases h)).trans (KS.out.trans hHeld.2 (fun j hj _ => by cases hj)) (fun x hx _ => hx)
  · simp only [hE0, if_false]
    have hne : (E != 0) = true := by simpa using hE0
    clear h hE
    go_enter Tryz.func183, Tryz.ntmps183
    go_wp2_with (go_at_call 209; go_loud (refine HM.out.mono ?_; rintro e w1 ⟨rfl, q, rfl⟩))
    go_ret2
    exact ⟨rfl, _, rfl⟩

theorem and7 {a : Nat} (h : a ≤ 8000000) : bits .and .i64 (wrap64 (-(a : Int))) 7 = (((8 - a % 8) % 8 : Nat) : Int) := by
  have hw : wrap64 (-(a : Int)) = -(a : Int) := IntWalk.wrap64_in _ ⟨by omega, by omega⟩
  rw [hw]
  have h7 : (BitVec.ofInt 64 7).toNat = 2 ^ 3 - 1 := by decide
  have hr : (BitVec.ofInt 64 (-(a : Int)) &&& BitVec.ofInt 64 7).toNat = (8 - a % 8) % 8 := by
    rw [BitVec.toNat_and, h7, Nat.and_two_pow_sub_one_eq_mod, BitVec.toNat_ofInt]
    omega
  show IntKind.i64.wrap ((BitVec.ofInt 64 (-(a : Int)) &&& BitVec.ofInt 64 7).toNat : Int) = _
  rw [hr]
  have : (8 - a % 8) % 8 < 8 := Nat.mod_lt _ (by omega)
  simp [IntKind.wrap, IntKind.signed, IntKind.bits]
  omega

set_option maxRecDepth 100000 in
set_option maxHeartbeats 2000000 in
theorem newFwd_any (v : Value) (B : List Int) (w : World) (hv : RdI .u8 w v B) (hl : B.length ≤ 1000000) (hb : ∀ x ∈ B, 0 ≤ x ∧ x ≤ 255) :
    Calls Tryz.prog 116 #[v] w fun e w' => ∃ R g, e = .returned (.pointer (some ⟨R, 0, none⟩)) ∧ BitR w' R g 195 B 0 (8 * B.length) ∧ w.heap.size ≤ R ∧ w.heap.size ≤ g ∧ Keeps w w' [] := by
  have HC := Lib.hid (cloneb_any v B w hv hl)
  obtain ⟨A0, n, cp0, rfl, hnl, -⟩ := hv.form
  have hn : n ≤ 1000000 := by omega
  have hw8 : wrap64 (8 * (n : Int)) = 8 * (n : Int) := IntWalk.wrap64_in _ ⟨by omega, by omega⟩
  have HN := Lib.hid hnl
  have HBY := Lib.hid (show B.length ≤ 1000000 ∧ ∀ x ∈ B, 0 ≤ x ∧ x ≤ 255 from ⟨hl, hb⟩)
  clear hv hnl hl hb
  go_enter Tryz.func116, Tryz.ntmps116
  go_wp2_with (go_at_call 33; go_loud (refine HC.out.mono ?_; rintro e w1 ⟨v1, rfl, own1, k1⟩; obtain ⟨a1, c1, rfl⟩ := own_form own1))
  go_ret
  have r1 := own_reads own1
  have hs1 := k1.size
  have hlt : ∀ ad m c, Value.slice a1 B.length c1 = .slice (some ad) m c → w.heap.size ≤ ad.block ∧ ad.block < w1.heap.size := fun ad m c he => own1.lt ad.block (by cases he; rfl)
  obtain ⟨g, hg, hge, hgn⟩ : ∃ g, (∀ ad m c, Value.slice a1 B.length c1 = .slice (some ad) m c → ad.block = g) ∧ w.heap.size ≤ g ∧ g ≠ w1.heap.size := by
    cases a1 with
    | none => exact ⟨w1.heap.size + 1, (fun ad m c he => by cases he), by omega, by omega⟩
    | some ad => exact ⟨ad.block, (fun ad' m c he => by cases he; rfl), (hlt ad _ _ rfl).1, by have := (hlt ad _ _ rfl).2; omega⟩
  have e8 : (8 * (n : Int)) = ((8 * B.length : Nat) : Int) := by have := HN.out; omega
  rw [e8]
  refine ⟨w1.heap.size, g, rfl, ⟨⟨_, Blk.new w1 _ _, r1.keeps ((Keeps.refl w1 []).alloc _), hg⟩, hgn, HBY.out.1, HBY.out.2, Nat.zero_le _, Nat.le_refl _⟩, hs1, hge, k1.alloc _⟩

set_option maxRecDepth 100000 in
set_option maxHeartbeats 4000000 in
theorem fwdAlign_any (R g : Nat) (B : List Int) (a : Nat) (w : World) (h : BitR w R g 195 B a (8 * B.length)) :
    Calls Tryz.prog 119 #[.pointer (some ⟨R, 0, none⟩)] w fun e w' =>
      if bitsAt B a ((8 - a % 8) % 8) = 0 then e = .returned (.tuple #[.int .i64 (((a + (8 - a % 8) % 8) / 8 : Nat) : Int), .int .i64 0]) ∧ BitR w' R g 195 B (a + (8 - a % 8) % 8) (8 * B.length) ∧ Keeps w w' [R]
      else e = .returned (.tuple #[.int .i64 0, .int .i64 14]) ∧ Keeps w w' [] := by
  have hab := h.hab
  have hl := h.len
  obtain ⟨m, hm⟩ : ∃ m, (8 - a % 8) % 8 = m := ⟨_, rfl⟩
  have hm8 : m < 8 ∧ (a + m) % 8 = 0 := by omega
  have h7 := and7 (a := a) (by omega)
  rw [hm] at h7 ⊢
  obtain ⟨bs, c1, c2, c3⟩ := h.cells
  obtain ⟨A0, k, cp, rfl, -, -⟩ := c2.form
  have HV := Lib.hid (fun w1 (kk : Keeps w w1 []) => value_any R a m _ _ _ B w1 _ (c1.keeps kk (by simp)) (c2.keeps kk) h.len h.bytes (by omega) (by omega))
  have hw1 : wrap64 ((a : Int) + (m : Int)) = ((a + m : Nat) : Int) := by rw [IntWalk.wrap64_in _ ⟨by omega, by omega⟩]; omega
  have q1 := c1.cell 1
  simp at q1
  have HH := Lib.hid h
  have HM8 := Lib.hid (show m < 8 ∧ (a + m) % 8 = 0 ∧ a ≤ 8 * B.length ∧ B.length ≤ 1000000 from ⟨hm8.1, hm8.2, hab, hl⟩)
  obtain ⟨V0, hV0⟩ : ∃ V0, bitsAt B a m = V0 := ⟨_, rfl⟩
  rw [hV0] at HV ⊢
  clear hm hm8 h hab hl hV0
  by_cases hz : V0 = 0
  · subst hz
    simp only [if_true]
    have e1 : (((0 : Nat) : Int) != 0) = false := by simp
    go_enter Tryz.func119, Tryz.ntmps119
    go_wp2_with fail
    clear q1
    refine wp_region_held_drew (S := (fun w' => Blk w' R #[.slice A0 k cp, .int .i64 (a : Int), .int .i64 ((8 * B.length : Nat) : Int)] 195 ∧ Keeps w w' [])) (by kernel_rfl) ⟨c1.drew, (Keeps.refl w []).drew⟩ (fun hHeld => ?_)
    refine takeL (i := 0) (v := ?_) rfl (by kernel_rfl) (by kernel_rfl) (by kernel_rfl) (fun _ _ _ h => h) (by rfl) ?_ (by assumption) ?_
    rotate_left
    · (intro w9 hSw; have q0 := hSw.1.cell 0; have q1 := hSw.1.cell 1; have q2 := hSw.1.cell 2; simp at q0 q1 q2; clear hSw; go_simp; (try with_reducible rfl))
    try simp only [Act.put, List.setIfInBounds_toArray, List.set_cons_zero, List.set_cons_succ]
    refine takeL (i := 1) (v := ?_) rfl (by kernel_rfl) (by kernel_rfl) (by kernel_rfl) (fun _ _ _ h => h) (by rfl) ?_ (by assumption) ?_
    rotate_left
    · (intro w9 hSw; have q0 := hSw.1.cell 0; have q1 := hSw.1.cell 1; have q2 := hSw.1.cell 2; simp at q0 q1 q2; clear hSw; go_simp; (try with_reducible rfl))
    try simp only [Act.put, List.setIfInBounds_toArray, List.set_cons_zero, List.set_cons_succ]
    refine takeL (i := 2) (v := ?_) rfl (by kernel_rfl) (by kernel_rfl) (by kernel_rfl) (fun _ _ _ h => h) (by rfl) ?_ (by assumption) ?_
    rotate_left
    · (intro w9 hSw; have q0 := hSw.1.cell 0; have q1 := hSw.1.cell 1; have q2 := hSw.1.cell 2; simp at q0 q1 q2; clear hSw; go_simp; (try with_reducible rfl))
    try simp only [Act.put, List.setIfInBounds_toArray, List.set_cons_zero, List.set_cons_succ]
    refine takeL (i := 3) (v := ?_) rfl (by kernel_rfl) (by kernel_rfl) (by kernel_rfl) (fun _ _ _ h => h) (by rfl) ?_ (by assumption) ?_
    rotate_left
    · (intro w9 hSw; have q0 := hSw.1.cell 0; have q1 := hSw.1.cell 1; have q2 := hSw.1.cell 2; simp at q0 q1 q2; clear hSw; go_simp; (try with_reducible rfl))
    try simp only [Act.put, List.setIfInBounds_toArray, List.set_cons_zero, List.set_cons_succ]
    refine takeL (i := 4) (v := ?_) rfl (by kernel_rfl) (by kernel_rfl) (by kernel_rfl) (fun _ _ _ h => h) (by rfl) ?_ (by assumption) ?_
    rotate_left
    · (intro w9 hSw; have q0 := hSw.1.cell 0; have q1 := hSw.1.cell 1; have q2 := hSw.1.cell 2; simp at q0 q1 q2; clear hSw; go_simp; (try with_reducible rfl))
    try simp only [Act.put, List.setIfInBounds_toArray, List.set_cons_zero, List.set_cons_succ]
    refine takeL (i := 5) (v := ?_) rfl (by kernel_rfl) (by kernel_rfl) (by kernel_rfl) (fun _ _ _ h => h) (by rfl) ?_ (by assumption) ?_
    rotate_left
    · (intro w9 hSw; have q0 := hSw.1.cell 0; have q1 := hSw.1.cell 1; have q2 := hSw.1.cell 2; simp at q0 q1 q2; clear hSw; go_simp; (try with_reducible rfl))
    try simp only [Act.put, List.setIfInBounds_toArray, List.set_cons_zero, List.set_cons_succ]
    refine takeL (i := 6) (v := ?_) rfl (by kernel_rfl) (by kernel_rfl) (by kernel_rfl) (fun _ _ _ h => h) (by rfl) ?_ (by assumption) ?_
    rotate_left
    · (intro w9 hSw; have q0 := hSw.1.cell 0; have q1 := hSw.1.cell 1; have q2 := hSw.1.cell 2; simp at q0 q1 q2; clear hSw; go_simp; (try with_reducible rfl))
    try simp only [Act.put, List.setIfInBounds_toArray, List.set_cons_zero, List.set_cons_succ]
    refine takeL (i := 7) (v := ?_) rfl (by kernel_rfl) (by kernel_rfl) (by kernel_rfl) (fun _ _ _ h => h) (by rfl) ?_ (by assumption) ?_
    rotate_left
    · (intro w9 hSw; have q0 := hSw.1.cell 0; have q1 := hSw.1.cell 1; have q2 := hSw.1.cell 2; simp at q0 q1 q2; clear hSw; go_simp; (try with_reducible rfl))
    try simp only [Act.put, List.setIfInBounds_toArray, List.set_cons_zero, List.set_cons_succ]
    refine takeL (i := 8) (v := ?_) rfl (by kernel_rfl) (by kernel_rfl) (by kernel_rfl) (fun _ _ _ h => h) (by rfl) ?_ (by assumption) ?_
    rotate_left
    · (intro w9 hSw; have q0 := hSw.1.cell 0; have q1 := hSw.1.cell 1; have q2 := hSw.1.cell 2; simp at q0 q1 q2; clear hSw; go_simp; (try with_reducible rfl))
    try simp only [Act.put, List.setIfInBounds_toArray, List.set_cons_zero, List.set_cons_succ]
    refine callL (i := 9) rfl (by kernel_rfl) (fun Kont hK => ?_)
    go_simp
    refine (HV.out _ hHeld.2).mono ?_; rintro e w3 ⟨rfl, kk⟩
    go_wp2_with fail
    refine hK.out _ _ ?_ (fun hHeld => ?_)
    · (exact ⟨hHeld.1.keeps kk (by simp), hHeld.2.then kk⟩)
    clear hK Kont
    refine takeL (i := 10) (v := ?_) rfl (by kernel_rfl) (by kernel_rfl) (by kernel_rfl) (fun _ _ _ h => h) (by rfl) ?_ (by assumption) ?_
    rotate_left
    · (intro w9 hSw; clear hSw; go_simp; (try with_reducible rfl))
    try simp only [Act.put, List.setIfInBounds_toArray, List.set_cons_zero, List.set_cons_succ]
    refine wpAnyH_done (by kernel_rfl) ?_ _
    obtain ⟨bB, kk⟩ := hHeld
    have bR := HH.out.keep kk
    have q1 := bB.cell 1
    have f1 := bB.frozen 1
    simp at q1
    clear HV
    obtain ⟨Sm, hSm⟩ : ∃ D : Int, (a : Int) + (m : Int) = D := ⟨_, rfl⟩
    have hd8 : Sm / 8 = (((a + m) / 8 : Nat) : Int) := by have := HM8.out; omega
    have hw9 : wrap64 Sm = Sm := IntWalk.wrap64_in _ ⟨by have := HM8.out; omega, by have := HM8.out; omega⟩
    have hS0 : (0 : Int) ≤ Sm := by omega
    have HS := Lib.hid hSm
    clear hw1
    go_wp2_with fail
    go_ret2
    have ht : wrap64 (Sm.tdiv 8) = (((a + m) / 8 : Nat) : Int) := by
      rw [Int.tdiv_eq_ediv_of_nonneg hS0, hd8]
      exact IntWalk.wrap64_in _ ⟨by have := HM8.out; omega, by have := HM8.out; omega⟩
    have hSa : Sm = ((a + m : Nat) : Int) := by omega
    have kS : Keeps w3 (w3.setCell ⟨R, 1, none⟩ (.int .i64 Sm)) [R] := (Keeps.refl w3 _).setCell (.inr (by simp)) _
    have d1 : Blk (w3.setCell ⟨R, 1, none⟩ (.int .i64 Sm)) R #[.slice A0 k cp, .int .i64 Sm, .int .i64 ((8 * B.length : Nat) : Int)] 195 := by
      have := bB.set 1 (.int .i64 Sm)
      simpa using this
    have d2 := (c2.keeps kk).keepsS kS (fun ad n cp e _ hm => bR.ne (by rw [← c3 ad n cp e]; simpa using hm))
    refine ⟨by rw [← ht]; rfl, ⟨⟨_, by rw [← hSa]; exact d1, d2, c3⟩, bR.ne, bR.len, bR.bytes, by have := HM8.out; omega, Nat.le_refl _⟩, ?_⟩
    exact (kk.mono (S' := [R]) (fun _ h => by cases h)).trans kS (fun x hx _ => hx)
  · simp only [hz, if_false]
    have e1 : (((V0 : Nat) : Int) != 0) = true := by simp; omega
    go_enter Tryz.func119, Tryz.ntmps119
    go_wp2_with fail
    clear q1
    refine wp_region_held_drew (S := (fun w' => Blk w' R #[.slice A0 k cp, .int .i64 (a : Int), .int .i64 ((8 * B.length : Nat) : Int)] 195 ∧ Keeps w w' [])) (by kernel_rfl) ⟨c1.drew, (Keeps.refl w []).drew⟩ (fun hHeld => ?_)
    refine takeL (i := 0) (v := ?_) rfl (by kernel_rfl) (by kernel_rfl) (by kernel_rfl) (fun _ _ _ h => h) (by rfl) ?_ (by assumption) ?_
    rotate_left
    · (intro w9 hSw; have q0 := hSw.1.cell 0; have q1 := hSw.1.cell 1; have q2 := hSw.1.cell 2; simp at q0 q1 q2; clear hSw; go_simp; (try with_reducible rfl))
    try simp only [Act.put, List.setIfInBounds_toArray, List.set_cons_zero, List.set_cons_succ]
    refine takeL (i := 1) (v := ?_) rfl (by kernel_rfl) (by kernel_rfl) (by kernel_rfl) (fun _ _ _ h => h) (by rfl) ?_ (by assumption) ?_
    rotate_left
    · (intro w9 hSw; have q0 := hSw.1.cell 0; have q1 := hSw.1.cell 1; have q2 := hSw.1.cell 2; simp at q0 q1 q2; clear hSw; go_simp; (try with_reducible rfl))
    try simp only [Act.put, List.setIfInBounds_toArray, List.set_cons_zero, List.set_cons_succ]
    refine takeL (i := 2) (v := ?_) rfl (by kernel_rfl) (by kernel_rfl) (by kernel_rfl) (fun _ _ _ h => h) (by rfl) ?_ (by assumption) ?_
    rotate_left
    · (intro w9 hSw; have q0 := hSw.1.cell 0; have q1 := hSw.1.cell 1; have q2 := hSw.1.cell 2; simp at q0 q1 q2; clear hSw; go_simp; (try with_reducible rfl))
    try simp only [Act.put, List.setIfInBounds_toArray, List.set_cons_zero, List.set_cons_succ]
    refine takeL (i := 3) (v := ?_) rfl (by kernel_rfl) (by kernel_rfl) (by kernel_rfl) (fun _ _ _ h => h) (by rfl) ?_ (by assumption) ?_
    rotate_left
    · (intro w9 hSw; have q0 := hSw.1.cell 0; have q1 := hSw.1.cell 1; have q2 := hSw.1.cell 2; simp at q0 q1 q2; clear hSw; go_simp; (try with_reducible rfl))
    try simp only [Act.put, List.setIfInBounds_toArray, List.set_cons_zero, List.set_cons_succ]
    refine takeL (i := 4) (v := ?_) rfl (by kernel_rfl) (by kernel_rfl) (by kernel_rfl) (fun _ _ _ h => h) (by rfl) ?_ (by assumption) ?_
    rotate_left
    · (intro w9 hSw; have q0 := hSw.1.cell 0; have q1 := hSw.1.cell 1; have q2 := hSw.1.cell 2; simp at q0 q1 q2; clear hSw; go_simp; (try with_reducible rfl))
    try simp only [Act.put, List.setIfInBounds_toArray, List.set_cons_zero, List.set_cons_succ]
    refine takeL (i := 5) (v := ?_) rfl (by kernel_rfl) (by kernel_rfl) (by kernel_rfl) (fun _ _ _ h => h) (by rfl) ?_ (by assumption) ?_
    rotate_left
    · (intro w9 hSw; have q0 := hSw.1.cell 0; have q1 := hSw.1.cell 1; have q2 := hSw.1.cell 2; simp at q0 q1 q2; clear hSw; go_simp; (try with_reducible rfl))
    try simp only [Act.put, List.setIfInBounds_toArray, List.set_cons_zero, List.set_cons_succ]
    refine takeL (i := 6) (v := ?_) rfl (by kernel_rfl) (by kernel_rfl) (by kernel_rfl) (fun _ _ _ h => h) (by rfl) ?_ (by assumption) ?_
    rotate_left
    · (intro w9 hSw; have q0 := hSw.1.cell 0; have q1 := hSw.1.cell 1; have q2 := hSw.1.cell 2; simp at q0 q1 q2; clear hSw; go_simp; (try with_reducible rfl))
    try simp only [Act.put, List.setIfInBounds_toArray, List.set_cons_zero, List.set_cons_succ]
    refine takeL (i := 7) (v := ?_) rfl (by kernel_rfl) (by kernel_rfl) (by kernel_rfl) (fun _ _ _ h => h) (by rfl) ?_ (by assumption) ?_
    rotate_left
    · (intro w9 hSw; have q0 := hSw.1.cell 0; have q1 := hSw.1.cell 1; have q2 := hSw.1.cell 2; simp at q0 q1 q2; clear hSw; go_simp; (try with_reducible rfl))
    try simp only [Act.put, List.setIfInBounds_toArray, List.set_cons_zero, List.set_cons_succ]
    refine takeL (i := 8) (v := ?_) rfl (by kernel_rfl) (by kernel_rfl) (by kernel_rfl) (fun _ _ _ h => h) (by rfl) ?_ (by assumption) ?_
    rotate_left
    · (intro w9 hSw; have q0 := hSw.1.cell 0; have q1 := hSw.1.cell 1; have q2 := hSw.1.cell 2; simp at q0 q1 q2; clear hSw; go_simp; (try with_reducible rfl))
    try simp only [Act.put, List.setIfInBounds_toArray, List.set_cons_zero, List.set_cons_succ]
    refine callL (i := 9) rfl (by kernel_rfl) (fun Kont hK => ?_)
    go_simp
    refine (HV.out _ hHeld.2).mono ?_; rintro e w3 ⟨rfl, kk⟩
    go_wp2_with fail
    refine hK.out _ _ ?_ (fun hHeld => ?_)
    · (exact ⟨hHeld.1.keeps kk (by simp), hHeld.2.then kk⟩)
    clear hK Kont
    refine takeL (i := 10) (v := ?_) rfl (by kernel_rfl) (by kernel_rfl) (by kernel_rfl) (fun _ _ _ h => h) (by rfl) ?_ (by assumption) ?_
    rotate_left
    · (intro w9 hSw; clear hSw; go_simp; (try with_reducible rfl))
    try simp only [Act.put, List.setIfInBounds_toArray, List.set_cons_zero, List.set_cons_succ]
    refine wpAnyH_done (by kernel_rfl) ?_ _
    go_wp2_with fail
    go_ret2
    exact ⟨rfl, hHeld.2⟩


end Go.Proofs.YtcmagccfagijlaaGreat
