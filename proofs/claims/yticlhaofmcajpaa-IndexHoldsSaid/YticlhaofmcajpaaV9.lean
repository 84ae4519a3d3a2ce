/-
  The law's helper over: the first iterations over a chain.
-/
import Derived.Test.YticlhaofmcajpaaV8
import Derived.Test.YticlhaofmcajpaaRC
import Derived.Test.YticlhaofmcajpaaRQ
import Derived.Deep.DeepCutAuto
import Derived.Deep.CutRange
namespace Go.Proofs.Yticlhaofmcajpaa
set_option linter.unusedVariables false
set_option linter.unusedSimpArgs false
open Go.RowKit Go.Shelf

attribute [local go_sem] Oper.semAt_some

/-- A function value is not nil. -/
@[go_sem] theorem eq_fn_nil (f : Fn) (x y : Array Value) (w : World) : (Go.binOp .eql 42 (.func f x y) .nilFunc).run Try.prog w = .ok (.bool false) w := by
  simp only [Go.binOp, Op.equal, Op.maxDepth]
  rw [show (10000 : Nat) = 9999 + 1 from rfl, Op.equalIn]
  simp [go_sem]

theorem Below.ofDrewN {B : Nat} {w : World} (n : Nat) : Below B w (w.drewN n) := ⟨rfl, rfl, rfl, Nat.le_refl _, fun _ _ => rfl⟩
/-- How many rounds a turn makes. -/
def manyOf (n : Nat) (many : Int) : Int := if (n : Int) < (if 1 < many then many else 1) then n else (if 1 < many then many else 1)
theorem manyOf_stop {n k : Nat} {many : Int} (h1 : k < n) (h2 : k = 0 ∨ (k : Int) < many) (h3 : many ≤ (k : Int) + 1) : (((k + 1 : Nat) : Int)) = manyOf n many := by
  unfold manyOf
  repeat' split
  all_goals omega
theorem manyOf_done {n : Nat} {many : Int} (h2 : n = 0 ∨ (n : Int) < many) : (n : Int) = manyOf n many := by
  unfold manyOf
  repeat' split
  all_goals omega

theorem manyOf_cases {n k : Nat} {many : Int} (h : (k : Int) = manyOf n many) : (1 < many → many < (n : Int) → (k : Int) = many) ∧ (1 < many → (n : Int) ≤ many → (k : Int) = n) ∧ (many ≤ 1 → 1 < (n : Int) → (k : Int) = 1) ∧ (many ≤ 1 → (n : Int) ≤ 1 → (k : Int) = n) := by
  unfold manyOf at h
  refine ⟨?_, ?_, ?_, ?_⟩ <;> intro h1 h2 <;> repeat' split at h
  all_goals omega

theorem chain_bd {K : Nat} {B : List Int} {p : Int} : ∀ x ∈ refChain K B p, 0 ≤ x ∧ x < p := by
  intro x hx
  unfold refChain at hx
  split at hx
  · rename_i hh
    have hb : 0 ≤ p ∧ p < (nk K B : Int) := by simpa [hasB] using hh
    obtain ⟨m, rfl, h2, h3⟩ := plN_mem.1 hx
    omega
  · cases hx

/-- What a turn keeps: the boxes of the call, the count k. -/
structure OvSt (w : World) (ra rl rm r8 rn : Nat) (at' many : Int) (v : Value) (k : Nat) (X : World) : Prop where
  kx : Keeps w X []
  ba : Blk X ra #[.int .i64 at'] 3
  bl : Blk X rl #[v] 37
  bm : Blk X rm #[.int .i64 many] 3
  b8 : Blk X r8 #[.bool false] 4
  bn : Blk X rn #[.int .i64 (k : Int)] 3
theorem OvSt.below {w X Y : World} {ra rl rm r8 rn k : Nat} {at' many : Int} {v : Value} (h : OvSt w ra rl rm r8 rn at' many v k X) {B : Nat} (hb : Below B X Y) (h0 : w.heap.size ≤ B) (h1 : ra < B) (h2 : rl < B) (h3 : rm < B) (h4 : r8 < B) (h5 : rn < B) : OvSt w ra rl rm r8 rn at' many v k Y :=
  ⟨Keeps.of_below (h.kx.below.trans (hb.mono h0)), (hb.block _ h1).trans h.ba, (hb.block _ h2).trans h.bl, (hb.block _ h3).trans h.bm, (hb.block _ h4).trans h.b8, (hb.block _ h5).trans h.bn⟩

set_option maxRecDepth 100000 in
set_option maxHeartbeats 4000000 in
theorem over_any (p K : Nat) (B : List Int) (S : List Nat) (at' many : Int) (L : List Int) (v : Value) (w : World) (h : Idx w p K B S) (hL : refChain K B at' = L) (hv : RdI .i64 w v L) (ha : at' ≤ 9223372036854775807) (hm1 : -9223372036854775808 ≤ many) (hm2 : many ≤ 9223372036854775807) :
    Calls Try.prog 20 #[.pointer (some ⟨p, 0, none⟩), .int .i64 at', v, .int .i64 many] w fun e w' => e = .returned (.bool true) ∧ Keeps w w' [] := by
  obtain ⟨A0, n0, c0, rfl, hn0, -⟩ := hv.form
  have hln := refChain_len K B at'
  have hBl := h.2.len
  have hl0 : L.length ≤ 1000001 := by rw [← hL]; have : nk K B ≤ 1000001 := by unfold nk; omega
                                      omega
  have hcb : ∀ x ∈ L, 0 ≤ x ∧ x < at' := by rw [← hL]; exact chain_bd
  have CH := Lib.hid (fun w1 (k : Keeps w w1 []) => chain_any p K B S at' w1 (h.keep k))
  have HL := Lib.hid hL
  have HV := Lib.hid hv
  have HCB := Lib.hid hcb
  have HN0 := Lib.hid hn0
  have hcap := hv.cap
  clear h hL hv hcb hln hBl hn0
  have k0 : Keeps w ((((w.alloc (.cells #[.int .i64 at'] 3)).alloc (.cells #[.slice A0 n0 c0] 37)).alloc (.cells #[.int .i64 many] 3)).alloc (.cells #[.bool false] 4)) [] := ((((Keeps.refl w []).alloc _).alloc _).alloc _).alloc _
  have q1 := (((Blk.new w #[.int .i64 at'] 3).alloc (.cells #[.slice A0 n0 c0] 37)).alloc (.cells #[.int .i64 many] 3)).alloc (.cells #[.bool false] 4)
  have q2 := ((Blk.new (w.alloc (.cells #[.int .i64 at'] 3)) #[.slice A0 n0 c0] 37).alloc (.cells #[.int .i64 many] 3)).alloc (.cells #[.bool false] 4)
  have q3 := (Blk.new ((w.alloc (.cells #[.int .i64 at'] 3)).alloc (.cells #[.slice A0 n0 c0] 37)) #[.int .i64 many] 3).alloc (.cells #[.bool false] 4)
  have q4 := Blk.new (((w.alloc (.cells #[.int .i64 at'] 3)).alloc (.cells #[.slice A0 n0 c0] 37)).alloc (.cells #[.int .i64 many] 3)) #[.bool false] 4
  simp only [World.size_alloc] at q2 q3 q4
  have CH0 := Lib.hid (CH.out _ k0)
  refine calls_of_marks Try.func20 rfl ?_
  simp only [Try.ntmps20, List.size_toArray, List.length_cons, List.length_nil, Nat.reduceAdd, Nat.reduceSub, Array.replicate_succ, Array.replicate_zero, List.push_toArray, List.append_toArray, List.nil_append, List.cons_append]
  go_wp2_with (refine CH0.out.mono ?_; rintro e w1 ⟨bl, bt, ad, cp, rfl, bL, bT, rL, hfresh, hbl, hbt, k1⟩)
  have hs1 := k1.size
  simp only [World.size_alloc] at hs1 hfresh hbl hbt
  have HFR := Lib.hid hfresh
  clear hfresh
  rw [HL.out] at bL rL
  have st0 : OvSt w w.heap.size (w.heap.size + 1) (w.heap.size + 1 + 1) (w.heap.size + 1 + 1 + 1) w1.heap.size at' many (.slice A0 n0 c0) 0 (w1.alloc (.cells #[.int .i64 0] 3)) :=
    ⟨(k0.then k1).alloc _, (q1.keeps k1 (by simp)).alloc _, (q2.keeps k1 (by simp)).alloc _, (q3.keeps k1 (by simp)).alloc _, (q4.keeps k1 (by simp)).alloc _, Blk.new _ _ _⟩
  have bL1 := bL.alloc (.cells #[.int .i64 0] 3)
  have bT1 := bT.alloc (.cells #[.int .i64 0] 3)
  have rL1 := rL.keeps ((Keeps.refl w1 []).alloc (.cells #[.int .i64 0] 3))
  have lbt := bT.lt
  have hsz : (w1.alloc (.cells #[.int .i64 0] 3)).heap.size = w1.heap.size + 1 := by simp
  clear bL bT rL k0 k1 q1 q2 q3 q4
  generalize (w1.alloc (.cells #[.int .i64 0] 3)) = W1 at *
  refine range_PX (gf := 35) (lb := #[.pointer (some ⟨bl, 0, none⟩), .pointer (some ⟨bt, 0, none⟩)]) rfl (enters_of Try.func35 (by kernel_rfl) rfl)
    (chain2 bl bt ad L.length cp L at' W1 bL1 bT1 rL1 (by omega) HCB.out ha) [w1.heap.size] ?hC ?hfine (fun _ => rfl) 0
    (fun pre X => ∃ k : Nat, pre = upto (itemC L at') k ∧ k ≤ L.length ∧ (k = 0 ∨ (k : Int) < many) ∧ OvSt w w.heap.size (w.heap.size + 1) (w.heap.size + 1 + 1) (w.heap.size + 1 + 1 + 1) w1.heap.size at' many (.slice A0 n0 c0) k X)
    (fun pre X => ∃ k : Nat, (k : Int) = manyOf L.length many ∧ OvSt w w.heap.size (w.heap.size + 1) (w.heap.size + 1 + 1) (w.heap.size + 1 + 1 + 1) w1.heap.size at' many (.slice A0 n0 c0) k X)
    (fun X => ∃ k : Nat, (k : Int) = manyOf L.length many ∧ OvSt w w.heap.size (w.heap.size + 1) (w.heap.size + 1 + 1) (w.heap.size + 1 + 1 + 1) w1.heap.size at' many (.slice A0 n0 c0) k X)
    ?hI ?hIx ?h0 ?hround ?hdone ?hstop ?hex ?hrest
  case hC => intro x hx; have := List.mem_singleton.1 hx; subst this; exact ⟨by omega, fun h0 p hp => by have := (HFR.out p hp).2; omega, by omega⟩
  case hfine => exact ⟨fun h0 p hp => by have := (HFR.out p hp).2; omega, by omega⟩
  case hI =>
    rintro s A B' ⟨k, h1, h2, h3, h4⟩ hab
    exact ⟨k, h1, h2, h3, h4.below hab (by omega) (by omega) (by omega) (by omega) (by omega) (by omega)⟩
  case hIx =>
    rintro s A B' ⟨k, h1, h4⟩ hab
    exact ⟨k, h1, h4.below hab (by omega) (by omega) (by omega) (by omega) (by omega) (by omega)⟩
  case hstop => exact fun pre X _ h => h
  case hex => exact fun a' W h => by simpa [Exit.inBlock, Exit.noGoto] using h
  case h0 => exact ⟨0, rfl, Nat.zero_le _, .inl rfl, st0⟩
  case hdone =>
    rintro xs X hS ⟨k, h1, h2, h3, h4⟩
    have hkS : k = L.length := by
      rw [hS] at h1
      simpa [upto_length] using (congrArg List.length h1).symm
    exact ⟨k, by rw [hkS]; exact manyOf_done (by rw [← hkS]; exact h3), h4⟩
  case hround =>
    rintro l' pre x W2 hle hlt2 ⟨k, rfl, hk, hkm, st⟩ hsp
    obtain ⟨hkl, hxx⟩ := upto_next hsp
    obtain ⟨y, hx⟩ : ∃ y, L[k]? = some y := ⟨_, List.getElem?_eq_getElem hkl⟩
    have hic : itemC L at' k = (y, at' - y) := by simp [itemC, hx]
    rw [hic] at hxx
    subst hxx
    have hv : 0 ≤ y ∧ y < at' := HCB.out y (List.mem_of_getElem? hx)
    gi_wp2
    refine ⟨Keeps.refl W2 _, fun W3 hT => ?_⟩
    have st3 := st.below (hT.below (B := w1.heap.size + 1) (by omega)) (by omega) (by omega) (by omega) (by omega) (by omega) (by omega)
    obtain ⟨d0, -⟩ := st3.ba.one
    obtain ⟨e0, -⟩ := st3.bl.one
    obtain ⟨m0, -⟩ := st3.bm.one
    obtain ⟨n1, nf1⟩ := st3.bn.one
    obtain ⟨bb, oo, rfl, hbb, x0⟩ := (HV.out.keeps st3.kx).at hx
    have hk1 : (k : Int) < (n0 : Int) := by have := HN0.out; omega
    have hk0 : (0 : Int) ≤ (k : Int) := Int.natCast_nonneg _
    have hge : decide (n0 ≤ k) = false := by simp; omega
    have HX := Lib.hid hx
    have HIC := Lib.hid hic
    have hv1 := hv.1
    have hv2 := hv.2
    have hyy : (y != y) = false := by simp
    have hyz : (at' - y != at' - y) = false := by simp
    clear hx hic hv hsp hT st
    gi_wp2
    refine region_in_round (by kernel_rfl) (by kernel_rfl) (by kernel_rfl) ?_
    repeat (any_goals (first | go_big_quiet_step (fail) | quiet_step (fail)))
    refine wpQuiet_nil ?_
    intro _ hw'
    obtain ⟨nq, hw''⟩ := hw'
    subst hw''
    have st4 : OvSt w w.heap.size (w.heap.size + 1) (w.heap.size + 1 + 1) (w.heap.size + 1 + 1 + 1) w1.heap.size at' many (.slice (some ⟨bb, oo, none⟩) n0 c0) (k + 1) ((W3.drewN nq).setCell ⟨w1.heap.size, 0, none⟩ (.int .i64 ((k : Int) + 1))) :=
      ⟨((st3.kx.drewN nq).setCell (.inl (by dsimp only; omega)) _), (st3.ba.drewN nq).setOther (by dsimp only; omega) _, (st3.bl.drewN nq).setOther (by dsimp only; omega) _, (st3.bm.drewN nq).setOther (by dsimp only; omega) _, (st3.b8.drewN nq).setOther (by dsimp only; omega) _, by have := (st3.bn.drewN nq).set 0 (.int .i64 ((k : Int) + 1)); simpa using this⟩
    have k4 : Keeps W3 ((W3.drewN nq).setCell ⟨w1.heap.size, 0, none⟩ (.int .i64 ((k : Int) + 1))) [w1.heap.size] := ((Keeps.refl W3 _).drewN nq).setCell (.inr (by simp)) _
    by_cases hmk : many ≤ (k : Int) + 1
    · have hdm : decide (many ≤ (k : Int) + 1) = true := by simpa using hmk
      gi_wp2
      exact ⟨k4, rfl, k + 1, manyOf_stop hkl hkm hmk, st4⟩
    · have hdm : decide (many ≤ (k : Int) + 1) = false := by simpa using hmk
      gi_wp2
      exact ⟨k4, k + 1, by rw [upto_succ, HIC.out], hkl, .inr (by omega), st4⟩
  case hrest =>
    rintro D X hD hK ⟨k, hk, st⟩
    obtain ⟨e0, -⟩ := st.bl.one
    obtain ⟨m0, -⟩ := st.bm.one
    obtain ⟨n1, nf1⟩ := st.bn.one
    obtain ⟨r1, rf1⟩ := st.b8.one
    have hn : ((n0 : Nat) : Int) = (L.length : Int) := by have := HN0.out; omega
    have HK := Lib.hid hk
    have HN1 := Lib.hid hn
    have e1 := hK
    clear hk hn
    go_wp2_with fail
    all_goals
      have e2 : ∀ b, (X.setCell ⟨w.heap.size + 1 + 1 + 1, 0, none⟩ (.bool b)).heap[D]? = some (.deferred (some [])) := fun b => (Below.heap_setCell X _ _ D (by dsimp only; omega)).trans e1
      refine ⟨by simp, .inl ⟨_, _, rfl, run_takeDeferred (e2 _), ?_⟩⟩
      have b8 := (st.b8.set 0 (.bool true))
      have b9 : Blk ((X.setCell ⟨w.heap.size + 1 + 1 + 1, 0, none⟩ (.bool true)).putObj D (.deferred none)) (w.heap.size + 1 + 1 + 1) #[.bool true] 4 := (World.putObj_heap_other (by omega)).trans b8
      have kf : Keeps w ((X.setCell ⟨w.heap.size + 1 + 1 + 1, 0, none⟩ (.bool true)).putObj D (.deferred none)) [] := Keeps.of_below ((st.kx.setCell (.inl (by dsimp only; omega)) _).below.trans (Turn.below (e2 true) (by omega)))
      obtain ⟨z1, z2, z3, z4⟩ := manyOf_cases HK.out
      have hz := HN1.out
      first
        | (have hb : ((k : Int) == many) = true := by simp; omega)
        | (have hb : ((k : Int) == (n0 : Int)) = true := by simp; omega)
        | (have hb : ((k : Int) == 1) = true := by simp; omega)
      rw [hb]
      exact ⟨_, res_cell Try.results20 rfl (Try.loadBool _ _ _ (b9.cell 0)), rfl, kf⟩

end Go.Proofs.Yticlhaofmcajpaa
