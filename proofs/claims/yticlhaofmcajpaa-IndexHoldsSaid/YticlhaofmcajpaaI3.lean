/-
  An index in memory; walks of its small methods: none, Len, Key, has, Previous, from.
-/
import Derived.Test.YticlhaofmcajpaaI2
namespace Go.Proofs.Yticlhaofmcajpaa
set_option linter.unusedVariables false
set_option linter.unusedSimpArgs false
set_option linter.unusedSectionVars false
open Go.RowKit

/-- The index at block p: key length K, bytes B, the first n positions entered; S: the blocks that it owns. -/
def IdxN (w : World) (p K : Nat) (B : List Int) (n : Nat) (S : List Nat) : Prop :=
  ∃ (vb vp : Value) (L C : Nat), S = p :: L :: C :: (vb.ownBlock.toList ++ vp.ownBlock.toList) ∧ S.Nodup ∧ Blk w p #[vb, .int .i64 (K : Int), .map (some L), .map (some C), vp] 62 ∧
    w.ownsRow 0 5 1 vb B.length (B.map (.int .u8)) ∧ w.ownsRow 0 3 1 vp n ((prevL K B n).map (.int .i64)) ∧ MapF w L n (lastN K B n) ∧ MapF w C n (cntN K B n)
/-- What is asked of the key length and of the bytes. -/
structure Fine (K : Nat) (B : List Int) : Prop where
  k1 : 1 ≤ K
  k8 : K ≤ 8
  len : B.length ≤ 1000000
  bytes : ∀ x ∈ B, 0 ≤ x ∧ x ≤ 255
/-- The whole index. -/
def Idx (w : World) (p K : Nat) (B : List Int) (S : List Nat) : Prop := IdxN w p K B (nk K B) S ∧ Fine K B

theorem own_keepsS {w w' : World} {base n : Nat} {e : TypeId} {size : Nat} {v : Value} {xs : List Value} {S : List Nat} (h : w.ownsRow base e size v n xs) (k : Keeps w w' S) (hn : ∀ x, v.ownBlock = some x → x ∉ S) : w'.ownsRow base e size v n xs := by
  obtain ⟨h1, h2⟩ := h
  refine ⟨h1, ?_⟩
  rcases h2 with h2 | ⟨g, cap, cur, rfl, hg, hb, r⟩
  · exact .inl h2
  · exact .inr ⟨g, cap, cur, rfl, hg, (k.block g (Array.getElem?_eq_some_iff.1 hb).1 (hn g rfl)).trans hb, r⟩

section
variable {w w' : World} {p K n : Nat} {B : List Int} {S S' : List Nat}
theorem IdxN.lt (h : IdxN w p K B n S) : ∀ x ∈ S, x < w.heap.size := by
  obtain ⟨vb, vp, L, C, rfl, hd, hp, hb, hv, hL, hC⟩ := h
  intro x hx
  simp only [List.mem_cons, List.mem_append, Option.mem_toList] at hx
  rcases hx with rfl | rfl | rfl | hx | hx
  · exact hp.lt
  · exact hL.lt
  · exact hC.lt
  · exact (hb.lt x hx).2
  · exact (hv.lt x hx).2
theorem IdxN.keeps (h : IdxN w p K B n S) (k : Keeps w w' S') (hn : ∀ x ∈ S, x ∉ S') : IdxN w' p K B n S := by
  obtain ⟨vb, vp, L, C, rfl, hd, hp, hb, hv, hL, hC⟩ := h
  refine ⟨vb, vp, L, C, rfl, hd, hp.keeps k (hn _ (by simp)), own_keepsS hb k (fun x hx => hn x (by simp [hx])), own_keepsS hv k (fun x hx => hn x (by simp [hx])), hL.keeps k (hn _ (by simp)), hC.keeps k (hn _ (by simp))⟩
theorem Idx.keeps (h : Idx w p K B S) (k : Keeps w w' S') (hn : ∀ x ∈ S, x ∉ S') : Idx w' p K B S := ⟨h.1.keeps k hn, h.2⟩
theorem Idx.keep (h : Idx w p K B S) (k : Keeps w w' []) : Idx w' p K B S := h.keeps k (by simp)
theorem Idx.lt (h : Idx w p K B S) : ∀ x ∈ S, x < w.heap.size := h.1.lt

/-- The cells of the index, as a walk asks for them. -/
theorem IdxN.cells (h : IdxN w p K B n S) : ∃ ab cb ap cp L C, w.cell? ⟨p, 0, none⟩ = some (.slice ab B.length cb) ∧ w.cell? ⟨p, 1, none⟩ = some (.int .i64 (K : Int)) ∧ w.cell? ⟨p, 2, none⟩ = some (.map (some L)) ∧ w.cell? ⟨p, 3, none⟩ = some (.map (some C)) ∧
    w.cell? ⟨p, 4, none⟩ = some (.slice ap n cp) ∧ RdI .u8 w (.slice ab B.length cb) B ∧ RdI .i64 w (.slice ap n cp) (prevL K B n) ∧ MapF w L n (lastN K B n) ∧ MapF w C n (cntN K B n) ∧ (∀ g, ab = some g → g.off = 0 ∧ g.spot = none) := by
  obtain ⟨vb, vp, L, C, rfl, hd, hp, hb, hv, hL, hC⟩ := h
  obtain ⟨ab, cb, rfl⟩ := own_form hb
  obtain ⟨ap, cp, rfl⟩ := own_form hv
  have h2 : RdI .i64 w (.slice ap n cp) (prevL K B n) := by
    have := own_reads (k := .i64) (l := prevL K B n) (v := .slice ap n cp) (w := w) (base := 0) (e := 3) (by rw [prevL_len]; exact hv)
    exact this
  refine ⟨ab, cb, ap, cp, L, C, hp.cell 0, hp.cell 1, hp.cell 2, hp.cell 3, hp.cell 4, own_reads hb, h2, hL, hC, ?_⟩
  intro g hg
  subst hg
  rcases hb.2 with ⟨h1, -⟩ | ⟨g', cap, cur, h1, -⟩
  · cases h1
  · cases h1; exact ⟨rfl, rfl⟩
theorem IdxN.lt0 (h : IdxN w p K B n S) : p < w.heap.size := by obtain ⟨vb, vp, L, C, rfl, hd, hp, -⟩ := h; exact hp.lt
end

theorem none_any (p K : Nat) (w : World) (hK : 1 ≤ K) (h1 : w.cell? ⟨p, 1, none⟩ = some (.int .i64 (K : Int))) :
    Calls Try.prog 28 #[.pointer (some ⟨p, 0, none⟩)] w fun e w' => e = .returned (.bool false) ∧ w = w' := by
  have h0 : ((K : Int) == 0) = false := by simp; omega
  go_enter Try.func28, Try.ntmps28
  go_wp2
  go_ret
  exact ⟨by first | rfl | simpa using hK | (simp; omega), rfl⟩

theorem len_any (p K : Nat) (B : List Int) (S : List Nat) (w : World) (h : Idx w p K B S) :
    Calls Try.prog 22 #[.pointer (some ⟨p, 0, none⟩)] w fun e w' => e = .returned (.int .i64 B.length) ∧ w = w' := by
  obtain ⟨ab, cb, ap, cp, L, C, c0, c1, -⟩ := h.1.cells
  have hK := h.2.k1
  have hN := none_any p K w hK c1
  clear h
  go_enter Try.func22, Try.ntmps22
  go_wp2_with (go_at_call 28; refine hN.mono ?_; rintro e w' ⟨rfl, rfl⟩)
  go_ret
  exact ⟨rfl, rfl⟩

theorem keylen_any (p K : Nat) (B : List Int) (S : List Nat) (w : World) (h : Idx w p K B S) :
    Calls Try.prog 39 #[.pointer (some ⟨p, 0, none⟩)] w fun e w' => e = .returned (.int .i64 K) ∧ w = w' := by
  obtain ⟨ab, cb, ap, cp, L, C, c0, c1, -⟩ := h.1.cells
  have hK := h.2.k1
  have hN := none_any p K w hK c1
  clear h
  go_enter Try.func39, Try.ntmps39
  go_wp2_with (go_at_call 28; refine hN.mono ?_; rintro e w' ⟨rfl, rfl⟩)
  go_ret
  exact ⟨rfl, rfl⟩

/-- Has a position a key? -/
def hasB (n : Nat) (at' : Int) : Bool := decide (0 ≤ at') && decide (at' < n)
theorem has_any (p K n : Nat) (B : List Int) (S : List Nat) (at' : Int) (w : World) (h : IdxN w p K B n S) (hK : 1 ≤ K) :
    Calls Try.prog 31 #[.pointer (some ⟨p, 0, none⟩), .int .i64 at'] w fun e w' => e = .returned (.bool (hasB n at')) ∧ w = w' := by
  obtain ⟨ab, cb, ap, cp, L, C, c0, c1, c2, c3, c4, -⟩ := h.cells
  have hN := none_any p K w hK c1
  clear h
  by_cases h0 : 0 ≤ at'
  · have hfin : Hid (hasB n at' = decide (at' < (n : Int))) := by show _ = _; simp [hasB, h0]
    go_enter Try.func31, Try.ntmps31
    go_wp2_with (go_at_call 28; refine hN.mono ?_; rintro e w' ⟨rfl, rfl⟩)
    go_ret
    exact ⟨ret_bool hfin.out.symm, rfl⟩
  · have hd : decide (0 ≤ at') = false := by simpa using h0
    have hfin : Hid (hasB n at' = false) := by show _ = _; simp [hasB, hd]
    go_enter Try.func31, Try.ntmps31
    go_wp2_with (go_at_call 28; refine hN.mono ?_; rintro e w' ⟨rfl, rfl⟩)
    go_ret
    exact ⟨ret_bool hfin.out.symm, rfl⟩

/-- What Previous hands back. -/
def prevV (K : Nat) (B : List Int) (at' : Int) : Option Int := if hasB (nk K B) at' then (chainL K B at'.toNat).head? else none
def optV (o : Option Int) : Value := .tuple #[.int .i64 (o.getD 0), .bool o.isSome]

set_option maxHeartbeats 400000 in
theorem previous_any (p K : Nat) (B : List Int) (S : List Nat) (at' : Int) (w : World) (h : Idx w p K B S) :
    Calls Try.prog 15 #[.pointer (some ⟨p, 0, none⟩), .int .i64 at'] w fun e w' => e = .returned (optV (prevV K B at')) ∧ w = w' := by
  have hH := has_any p K (nk K B) B S at' w h.1 h.2.k1
  obtain ⟨ab, cb, ap, cp, L, C, c0, c1, c2, c3, c4, -, hr, -⟩ := h.1.cells
  cases hh : hasB (nk K B) at' with
  | false =>
    rw [hh] at hH
    have hfin : Hid (prevV K B at' = none) := by show _ = _; simp [prevV, hh]
    have HH := Lib.hid hH
    clear h hr hh hH
    go_enter Try.func15, Try.ntmps15
    go_wp2_with (go_at_call 31; refine HH.out.mono ?_; rintro e w' ⟨rfl, rfl⟩)
    go_ret2
    exact ⟨by rw [hfin.out]; rfl, rfl⟩
  | true =>
    rw [hh] at hH
    have HH := Lib.hid hH
    have hb : 0 ≤ at' ∧ at' < (nk K B : Int) := by simpa [hasB] using hh
    obtain ⟨q, rfl⟩ := Int.eq_ofNat_of_zero_le hb.1
    have hq : q < nk K B := by omega
    obtain ⟨b, o, rfl, hbl, hc⟩ := hr.at (prevL_get hq)
    have hcap := hr.cap
    have hf1 : Hid (prevV K B (q : Int) = (chainL K B q).head?) := by show _ = _; unfold prevV; rw [hh]; rfl
    have hq0 : (0 : Int) ≤ (q : Int) := hb.1
    have hq1 : (q : Int) < (nk K B : Int) := hb.2
    obtain ⟨N, hN⟩ : ∃ N, N = nk K B := ⟨_, rfl⟩
    rw [← hN] at c4 hcap hq1 hq
    rcases prevAt_cases K B q with ⟨e1, e2⟩ | ⟨m, e1, e2, e3, -⟩
    · rw [e1] at hc
      rw [e2] at hf1
      clear h hr hh hH hb e1 e2 hN
      go_enter Try.func15, Try.ntmps15
      go_wp2_with (go_at_call 31; refine HH.out.mono ?_; rintro e w' ⟨rfl, rfl⟩)
      go_ret2
      exact ⟨by rw [hf1.out]; try rfl, rfl⟩
    · rw [e1] at hc
      rw [e3] at hf1
      have hm0 : decide ((m : Int) < 0) = false := decide_eq_false (by omega)
      clear h hr hh hH hb e1 e2 e3 hN
      go_enter Try.func15, Try.ntmps15
      go_wp2_with (go_at_call 31; refine HH.out.mono ?_; rintro e w' ⟨rfl, rfl⟩)
      go_ret2
      exact ⟨by rw [hf1.out]; try rfl, rfl⟩

/-- The bytes between two positions, not none. -/
theorem from_any (p g n cb a b : Nat) (w : World) (h0 : w.cell? ⟨p, 0, none⟩ = some (.slice (some ⟨g, 0, none⟩) n cb)) (hab : a < b) (hbn : b ≤ n) (hn : n ≤ cb) :
    Calls Try.prog 30 #[.pointer (some ⟨p, 0, none⟩), .int .i64 a, .int .i64 b] w fun e w' => e = .returned (.slice (some ⟨g, a, none⟩) (b - a) (b - a)) ∧ w = w' := by
  have h1 : (a : Int) ≤ (b : Int) := by omega
  have h2 : (b : Int) ≤ (cb : Int) := by omega
  have h3 : (0 : Int) ≤ (a : Int) := Int.natCast_nonneg _
  have h4 : (0 : Int) ≤ (b : Int) := Int.natCast_nonneg _
  have h5 : b ≤ cb := by omega
  have h6 : a ≤ b := by omega
  have h7 : ¬ b = a := by omega
  have h8 : ¬ b - a = 0 := by omega
  go_enter Try.func30, Try.ntmps30
  go_wp2
  go_ret
  exact ⟨rfl, rfl⟩

end Go.Proofs.Yticlhaofmcajpaa
