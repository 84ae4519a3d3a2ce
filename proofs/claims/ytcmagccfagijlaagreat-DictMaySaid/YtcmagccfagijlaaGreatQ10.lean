/-
  Walks: slices.Clone at []byte, num.parts, num.PutVarint.
-/
import Derived.Test.YtcmagccfagijlaaGreatQ9
import Derived.Shelf.Abstract
namespace Go.Proofs.YtcmagccfagijlaaGreat
set_option linter.unusedVariables false
set_option linter.unusedSimpArgs false
set_option linter.unusedSectionVars false
open Go.RowKit Go.Shelf

attribute [local go_sem] Oper.semAt_some

theorem Tryz.infoByte : (Tryz.prog.info? 5).map (fun i => (i.zero, i.size, i.bytes)) = some (some (.int .u8 0), 1, 1) := by kernel_rfl

/-- A row of bytes of the call's own. -/
abbrev OwnB (w : World) (base : Nat) (v : Value) (l : List Int) : Prop := w.ownsRow base 5 1 v l.length (l.map (.int .u8))

theorem own_ne {w : World} {base : Nat} {v : Value} {l : List Int} (h : OwnB w base v l) {b : Nat} {o : Obj} (hb : w.heap[b]? = some o) (ho : ∀ cs, o ≠ .cells cs 5 (0, 0)) : v.ownBlock ≠ some b := by
  rcases h.2 with ⟨rfl, -⟩ | ⟨g, cap, cur, rfl, -, hg, -⟩
  · simp [Value.ownBlock]
  · intro e
    simp [Value.ownBlock] at e
    subst e
    rw [hg] at hb
    exact ho _ (Option.some.inj hb).symm

theorem own_moved {w w' : World} {base : Nat} {v : Value} {l : List Int} (h : OwnB w base v l) (hg : ∀ g, v.ownBlock = some g → w'.heap[g]? = w.heap[g]?) : OwnB w' base v l := by
  refine ⟨h.1, ?_⟩
  rcases h.2 with ⟨rfl, h0⟩ | ⟨g, cap, cur, rfl, h1, h2, h3⟩
  · exact .inl ⟨rfl, h0⟩
  · exact .inr ⟨g, cap, cur, rfl, h1, (hg g rfl).trans h2, h3⟩

set_option maxRecDepth 100000 in
set_option maxHeartbeats 1000000 in
theorem cloneb_any (v : Value) (l : List Int) (w : World) (hv : RdI .u8 w v l) (hl : l.length ≤ 1000000) :
    Calls Tryz.prog 33 #[v] w fun e w' => ∃ v', e = .returned v' ∧ OwnB w' w.heap.size v' l ∧ Keeps w w' [] := by
  obtain ⟨i0, hi, hz0, hz1, hz2⟩ := info_parts Tryz.infoByte
  obtain ⟨ad, n, c, rfl, -, -⟩ := hv.form
  have HV := Lib.hid hv
  have heq : ∀ w : World, (binOp .eql 22 (.slice ad n c) (.slice none 0 0)).run Tryz.prog w = .ok (.bool ad.isNone) w := fun w => Lib.run_eql_slice_nil w _ _ _ _ _ _ _ Tryz.underlying22
  cases ad with
  | none =>
    obtain ⟨rfl, rfl, rfl⟩ := hv.nilcap
    simp only [Option.isNone_none] at heq
    clear hv
    go_enter Tryz.func33, Tryz.ntmps33
    go_wp2_with fail
    go_ret
    exact ⟨_, rfl, World.ownsRow_nil _ _ _ _, Keeps.refl _ _⟩
  | some ad =>
    simp only [Option.isNone_some] at heq
    clear hv
    go_enter Tryz.func33, Tryz.ntmps33
    go_wp2_with (refine wpList_copyI rfl rfl rfl 22 5 _ _ _ rfl rfl rfl i0 (.int .u8 0) 1 Tryz.underlying22 hi hz0 hz1 hz2 rfl (.slice (some ad) n c) (fun _ => rfl) (fun _ => rfl) (fun _ => rfl) .u8 l HV.out (by unfold maxLen; omega) (by omega) ?_; intro v0 v1 w1 own1 k1 ne1; obtain ⟨a1, c1, rfl⟩ := own_form own1)
    go_ret
    exact ⟨_, rfl, own1, k1⟩

set_option maxRecDepth 100000 in
theorem parts_any (n : Nat) (w : World) (hn : n < 18446744073709551616) :
    Calls Tryz.prog 113 #[.int .u64 (n : Int)] w fun e w' => e = .returned (.func (.func 148) #[] #[.pointer (some ⟨w.heap.size, 0, none⟩)]) ∧ w' = w.alloc (.cells #[.int .u64 (n : Int)] 95) := by
  go_enter Tryz.func113, Tryz.ntmps113
  go_wp2_with fail
  go_ret
  exact ⟨rfl, rfl⟩

/-- How PutVarint ends. -/
def PutEnd (w : World) (b : List Int) (n : Nat) (e : Ending) (w' : World) : Prop :=
  if 4611686018427387903 < n then e = .returned (.tuple #[.slice none 0 0, .int .i64 2]) ∧ w' = w
  else ∃ v, e = .returned (.tuple #[v, .int .i64 0]) ∧ OwnB w' w.heap.size v (b ++ varI n) ∧ Keeps w w' []

set_option maxRecDepth 100000 in
set_option maxHeartbeats 4000000 in
theorem putVarint_any (v : Value) (b : List Int) (n : Nat) (w : World) (hv : RdI .u8 w v b) (hl : b.length ≤ 500000) (hn : n < 18446744073709551616) :
    Calls Tryz.prog 67 #[v, .int .u64 (n : Int)] w (PutEnd w b n) := by
  obtain ⟨i0, hi, hz0, hz1, hz2⟩ := info_parts Tryz.infoByte
  have HCL := Lib.hid (cloneb_any v b w hv (by omega))
  obtain ⟨ad, m, c, rfl, -, -⟩ := hv.form
  clear hv
  by_cases hbig : 4611686018427387903 < n
  · have h1 : (4611686018427387903 : Int) < (n : Int) := by omega
    have hfin : ∀ e w', PutEnd w b n e w' ↔ (e = .returned (.tuple #[.slice none 0 0, .int .i64 2]) ∧ w' = w) := fun e w' => by unfold PutEnd; rw [if_pos hbig]
    go_enter Tryz.func67, Tryz.ntmps67
    go_wp2_with fail
    refine bodyPost_ret (v := .tuple #[.slice none 0 0, .int .i64 2]) (by simp [results, Tryz.results67]) rfl ((hfin _ _).2 ⟨rfl, rfl⟩)
  · have h1 : decide ((4611686018427387903 : Int) < (n : Int)) = false := decide_eq_false (by omega)
    have hlen := varI_len 9 n (by omega)
    have hfin : ∀ e w', PutEnd w b n e w' ↔ (∃ v, e = .returned (.tuple #[v, .int .i64 0]) ∧ OwnB w' w.heap.size v (b ++ varI n) ∧ Keeps w w' []) := fun e w' => by unfold PutEnd; rw [if_neg hbig]
    have HF := Lib.hid hfin
    have HL := Lib.hid hlen
    have PA := Lib.hid (fun w1 => parts_any n w1 hn)
    clear hfin hlen
    refine calls_of_marks Tryz.func67 rfl ?_
    simp only [Tryz.ntmps67, List.size_toArray, List.length_cons, List.length_nil, Nat.reduceAdd, Nat.reduceSub, Array.replicate_succ, Array.replicate_zero, List.push_toArray, List.append_toArray, List.nil_append, List.cons_append]
    go_wp2_with (first | (go_at_call 33; refine HCL.out.mono ?_; rintro e w1 ⟨v1, rfl, own1, k1⟩; obtain ⟨a1, c1, rfl⟩ := own_form own1) | (go_at_call 113; refine (PA.out _).mono ?_; rintro e w2 ⟨rfl, rfl⟩))
    have hs1 := k1.size
    have bo0 : Blk ((w1.alloc (.cells #[.slice a1 b.length c1] 22)).alloc (.cells #[.int .u64 (n : Int)] 95)) w1.heap.size #[.slice a1 b.length c1] 22 := (Blk.new w1 _ _).alloc _
    have bn0 : Blk ((w1.alloc (.cells #[.slice a1 b.length c1] 22)).alloc (.cells #[.int .u64 (n : Int)] 95)) (w1.heap.size + 1) #[.int .u64 (n : Int)] 95 := by
      have := Blk.new (w1.alloc (.cells #[.slice a1 b.length c1] 22)) #[.int .u64 (n : Int)] 95
      simpa using this
    have kz : Keeps w1 ((w1.alloc (.cells #[.slice a1 b.length c1] 22)).alloc (.cells #[.int .u64 (n : Int)] 95)) [] := ((Keeps.refl w1 []).alloc _).alloc _
    have ow0 := own_keeps own1 kz
    have k0 := k1.then kz
    have hlg : ∀ g, (Value.slice a1 b.length c1).ownBlock = some g → g < w1.heap.size := fun g hg => (own1.lt g hg).2
    have hsz : ((w1.alloc (.cells #[.slice a1 b.length c1] 22)).alloc (.cells #[.int .u64 (n : Int)] 95)).heap.size = w1.heap.size + 2 := by simp
    clear own1 k1 kz
    generalize ((w1.alloc (.cells #[.slice a1 b.length c1] 22)).alloc (.cells #[.int .u64 (n : Int)] 95)) = Z at *
    refine range_PY (gf := 148) (lb := #[.pointer (some ⟨w1.heap.size + 1, 0, none⟩)]) rfl (enters_of Tryz.func148 (by kernel_rfl) rfl)
      (parts1_seq (w1.heap.size + 1) n Z hn bn0) (by simp; omega) (fun _ => rfl) 0
      (fun pre W => ∃ a c, Blk W w1.heap.size #[.slice a (b ++ pre).length c] 22 ∧ OwnB W w.heap.size (.slice a (b ++ pre).length c) (b ++ pre) ∧ Keeps w W [] ∧ (∀ g, (Value.slice a (b ++ pre).length c).ownBlock = some g → g ≠ w1.heap.size + 1 ∧ g ≠ w1.heap.size + 2 ∧ g ≠ w1.heap.size + 3))
      (fun pre W => False)
      (fun W => ∃ a c, Blk W w1.heap.size #[.slice a (b ++ varI n).length c] 22 ∧ OwnB W w.heap.size (.slice a (b ++ varI n).length c) (b ++ varI n) ∧ Keeps w W [])
      ?hI ?hIx ?h0 ?hround ?hdone ?hstop ?hex ?hrest
    case hI =>
      rintro s A B ⟨a2, c2, bo, ow, kw, hn2⟩ hab
      rw [hsz] at hab
      refine ⟨a2, c2, bo.keeps hab (by simp; omega), own_moved ow (fun g hg => ?_), kw.trans hab (fun j hj hlt => by simp at hj; omega), hn2⟩
      have := hn2 g hg
      exact hab.block g (ow.lt g hg).2 (by simp; omega)
    case hIx => exact fun s A B h _ => h
    case hstop => exact fun pre X _ h => h.elim
    case hex => exact fun a' W h => by simpa [Exit.inBlock, Exit.noGoto] using h
    case h0 =>
      refine ⟨a1, c1, by simpa using bo0, by simpa using ow0, k0, fun g hg => ?_⟩
      have := hlg g (by simpa using hg)
      omega
    case hdone =>
      rintro xs W hS ⟨a2, c2, bo, ow, kw, -⟩
      rw [hS] at bo ow
      exact ⟨a2, c2, bo, ow, kw⟩
    case hround =>
      rintro l pre x W hl hlt hD hF ⟨a2, c2, bo, ow, kw, hn2⟩ hsp
      gi_wp2
      refine ⟨SameAt.refl _ _, fun W2 hT => ?_⟩
      subst hl
      rw [hsz] at hT hD hlt
      obtain ⟨q, bn⟩ := hF
      have bo2 := hT.blk bo
      have bn2 := hT.blk bn
      have ow2 : OwnB W2 w.heap.size (.slice a2 (b ++ pre).length c2) (b ++ pre) := own_moved ow (fun g hg => hT.keeps.block g (ow.lt g hg).2 (by have := hn2 g hg; simp; omega))
      have kw2 : Keeps w W2 [] := kw.trans hT.keeps (fun j hj hlt => by simp at hj; omega)
      have hD2 : W2.heap[w1.heap.size + 2]? = some (.deferred (some [])) := (hT.keeps.block _ (by omega) (by simp)).trans hD
      obtain ⟨r0, r1, hr0, hr1⟩ := hT
      have hl2 : W2.heap[w1.heap.size + 3]? = some (.loop r1) := by rw [hr1]; exact World.putObj_heap_same hlt
      clear hr0 hr1 r0 bo bn ow kw hn2 hD
      have hpl : (b ++ pre).length + 1 ≤ 500010 := by have h1 := hsp.length_le; have h2 := HL.out; simp at h1 ⊢; omega
      have hlb := bo2.lt
      have ow3 := own_keeps ow2 ((Keeps.refl W2 []).alloc (.cells #[.int .u8 x] 5))
      have hm : (b ++ pre).map (Value.int .u8) ++ [.int .u8 x] = (b ++ (pre ++ [x])).map (Value.int .u8) := by simp
      have hm' : (b ++ (pre ++ [x])).length = (b ++ pre).length + 1 := by simp; omega
      have ne1 : (Value.slice a2 (b ++ pre).length c2).ownBlock ≠ some w1.heap.size := own_ne ow2 bo2 (fun cs h => by cases h)
      have ne2 : (Value.slice a2 (b ++ pre).length c2).ownBlock ≠ some (w1.heap.size + 1) := own_ne ow2 bn2 (fun cs h => by cases h)
      have ne3 : (Value.slice a2 (b ++ pre).length c2).ownBlock ≠ some (w1.heap.size + 2) := own_ne ow2 hD2 (fun cs h => by cases h)
      have ne4 : (Value.slice a2 (b ++ pre).length c2).ownBlock ≠ some (w1.heap.size + 3) := own_ne ow2 hl2 (fun cs h => by cases h)
      have hge : ∀ k, (Value.slice a2 (b ++ pre).length c2).ownBlock = some k → w.heap.size ≤ k := fun k hk => (ow2.lt k hk).1
      generalize (b ++ pre).map (Value.int .u8) = xs at *
      generalize (b ++ pre).length = N at *
      obtain ⟨cb, -⟩ := bo2.one
      have HM := Lib.hid hm
      have HM' := Lib.hid hm'
      have OW3 := Lib.hid ow3
      have HNE := Lib.hid (And.intro ne1 (And.intro ne2 (And.intro ne3 ne4)))
      have HGE := Lib.hid hge
      have BO2 := Lib.hid bo2
      have BN2 := Lib.hid bn2
      have HD2 := Lib.hid hD2
      have HL2 := Lib.hid hl2
      clear hm hm' hsp ow3 ne1 ne2 ne3 ne4 bn2 hD2 hl2 ow2 hge bo2
      have HNW : Hid (∀ (j : Nat) (u : Value), [Value.int IntKind.u8 x][j]? = some u → (W2.alloc (.cells #[.int .u8 x] 5)).cell? (Addr.add ⟨W2.heap.size, 0, none⟩ j) = some u) := fun j u hj => by
        cases j with
        | zero =>
          obtain rfl : Value.int .u8 x = u := by simpa using hj
          exact (Blk.new W2 #[.int .u8 x] 5).cell 0
        | succ j => simp at hj
      gi_wp2_with (gi_at_builtin; refine wpListIn_append_own _ rfl _ _ 22 rfl w.heap.size 5 i0 (.int .u8 0) 1 1 Tryz.underlying22 hi hz0 hz1 hz2 rfl (by decide) (.slice a2 N c2) N xs rfl OW3.out _ 1 1 [.int .u8 x] rfl rfl HNW.out (by simp [Value.oneCell']) (by unfold maxLen; omega) (by omega) (by simp; omega) ?_; intro v3 w3 own3 g3 _; obtain ⟨a3, c3, rfl⟩ := own_form own3; have bo3 : Blk w3 w1.heap.size #[.slice a2 N c2] 22 := (g3.block _ (by simp; omega) (fun e => HNE.out.1 e.symm)).trans (BO2.out.alloc _); obtain ⟨cb3, cf3⟩ := bo3.one)
      have st : ∀ (k : Nat) (o : Obj), W2.heap[k]? = some o → (Value.slice a2 N c2).ownBlock ≠ some k → w3.heap[k]? = some o := fun k o hk hne => by
        have hlt := (Array.getElem?_eq_some_iff.1 hk).1
        exact (g3.block k (by simp; omega) (fun e => hne e.symm)).trans ((((Keeps.refl W2 []).alloc _).block k hlt (by simp)).trans hk)
      have m1 := st _ _ BN2.out HNE.out.2.1
      have m2 := st _ _ HD2.out HNE.out.2.2.1
      have m3 := st _ _ HL2.out HNE.out.2.2.2
      have own3' : OwnB w3 w.heap.size (.slice a3 (b ++ (pre ++ [x])).length c3) (b ++ (pre ++ [x])) := by
        have h := own3
        rw [HM.out] at h
        unfold OwnB
        rw [HM'.out]
        exact h
      have q1 := own_ne own3' m1 (fun cs h => by cases h)
      have q2 := own_ne own3' m2 (fun cs h => by cases h)
      have q3 := own_ne own3' m3 (fun cs h => by cases h)
      have q0 := own_ne own3' bo3 (fun cs h => by cases h)
      have ks : Keeps w3 (w3.setCell ⟨w1.heap.size, 0, none⟩ (.slice a3 (N + 1) c3)) [w1.heap.size] := (Keeps.refl w3 [w1.heap.size]).setCell (.inr (by simp)) _
      have kg : Keeps W2 w3 (match (Value.slice a2 N c2).ownBlock with | some g => [g] | none => []) := ((Keeps.refl W2 _).alloc _).trans (Keeps.of_grown g3 (fun k hk => by rw [hk]; simp)) (fun j hj _ => hj)
      refine ⟨?_, a3, c3, ?_, ?_, ?_, ?_⟩
      · intro k hk
        have hk' : k = w1.heap.size + 1 ∨ k = w1.heap.size + 2 ∨ k = w1.heap.size + 3 := by simp [hsz] at hk; omega
        rcases hk' with rfl | rfl | rfl
        · exact (ks.block _ (Array.getElem?_eq_some_iff.1 m1).1 (by simp)).trans (m1.trans BN2.out.symm)
        · exact (ks.block _ (Array.getElem?_eq_some_iff.1 m2).1 (by simp)).trans (m2.trans HD2.out.symm)
        · exact (ks.block _ (Array.getElem?_eq_some_iff.1 m3).1 (by simp)).trans (m3.trans HL2.out.symm)
      · rw [HM'.out]
        exact bo3.set 0 _
      · exact own_moved own3' (fun g hg => ks.block g (own3'.lt g hg).2 (by simp; rintro rfl; exact q0 hg))
      · refine (kw2.trans kg (fun j hj hlt => ?_)).trans ks (fun j hj hlt => ?_)
        · have hgx : (Value.slice a2 N c2).ownBlock = some j := by
            cases a2 with
            | none => simp [Value.ownBlock] at hj
            | some a => simp [Value.ownBlock] at hj ⊢; exact hj.symm
          have := HGE.out j hgx; omega
        · simp at hj; omega
      · intro g hg
        refine ⟨?_, ?_, ?_⟩ <;> rintro rfl
        · exact q1 hg
        · exact q2 hg
        · exact q3 hg
    case hrest =>
      rintro D X hD hK ⟨a2, c2, bo, ow, kw⟩
      rw [hsz] at hD
      obtain ⟨cb, -⟩ := bo.one
      have OW := Lib.hid ow
      have ne := own_ne ow hK (fun cs h => by cases h)
      have NE := Lib.hid ne
      have hgg : (b ++ varI n).length = (b ++ varI n).length := rfl
      generalize hN : (b ++ varI n).length = N at cb
      have HN := Lib.hid hN
      clear ow ne hgg bo hN
      simp only [Exit.inBlock, Exit.then]
      go_wp2_with fail
      refine ⟨by simp, .inl ⟨_, _, rfl, run_takeDeferred hK, ?_⟩⟩
      have kp : Keeps X (X.putObj D (.deferred none)) [D] := keeps_put
      refine ⟨.tuple #[.slice a2 N c2, .int .i64 0], by simp [results, Tryz.results67], (HF.out _ _).2 ⟨_, rfl, ?_, kw.trans kp (fun j hj hlt => by simp at hj; omega)⟩⟩
      rw [← HN.out]
      exact own_moved OW.out (fun g hg => kp.block g (OW.out.lt g hg).2 (by simp; rintro rfl; exact NE.out hg))


end Go.Proofs.YtcmagccfagijlaaGreat
