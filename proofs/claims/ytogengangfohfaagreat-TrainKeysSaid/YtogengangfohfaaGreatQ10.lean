/-
  slices.AppendSeq of the pieces of a slice of bytes.
-/
import Derived.Test.YtogengangfohfaaGreatQ9
namespace Go.Proofs.YtogengangfohfaaGreat
set_option linter.unusedVariables false
set_option linter.unusedSimpArgs false
set_option linter.unusedSectionVars false
open Go.RowKit

attribute [local go_sem] Oper.semAt_some

theorem Tryz.infoSl : (Tryz.prog.info? 33).map (fun i => (i.zero, i.size, i.bytes)) = some (some (.slice none 0 0), 1, 24) := by kernel_rfl

def ownL (v : Value) : List Nat := match v.ownBlock with | some g => [g] | none => []
theorem mem_ownL {v : Value} {j : Nat} : j ∈ ownL v ↔ v.ownBlock = some j := by
  unfold ownL
  cases v.ownBlock with
  | none => simp
  | some g => simp; exact eq_comm
theorem own_neO {w : World} {base : Nat} {e : TypeId} {size n : Nat} {v : Value} {xs : List Value} (h : w.ownsRow base e size v n xs) {b : Nat} {o : Obj} (hb : w.heap[b]? = some o) (ho : ∀ cs, o ≠ .cells cs e (0, 0)) : v.ownBlock ≠ some b := by
  rcases h.2 with ⟨rfl, -⟩ | ⟨g, cap, cur, rfl, -, hg, -⟩
  · simp [Value.ownBlock]
  · intro e
    simp [Value.ownBlock] at e
    subst e
    rw [hg] at hb
    exact ho _ (Option.some.inj hb).symm
theorem own_moveO {w w' : World} {base : Nat} {e : TypeId} {size n : Nat} {v : Value} {xs : List Value} (h : w.ownsRow base e size v n xs) (hg : ∀ g, v.ownBlock = some g → w'.heap[g]? = w.heap[g]?) : w'.ownsRow base e size v n xs := by
  refine ⟨h.1, ?_⟩
  rcases h.2 with ⟨rfl, h0⟩ | ⟨g, cap, cur, rfl, h1, h2, h3⟩
  · exact .inl ⟨rfl, h0⟩
  · exact .inr ⟨g, cap, cur, rfl, h1, (hg g rfl).trans h2, h3⟩
abbrev OwnV (w : World) (base : Nat) (v : Value) (vs : List Value) : Prop := w.ownsRow base 33 1 v vs.length vs
theorem chV_one (g o n k : Nat) : (chV g o n k).oneCell' = true := rfl

set_option maxRecDepth 100000 in
set_option maxHeartbeats 4000000 in
theorem appseq_any (v : Value) (vs : List Value) (B bs bn g o n c : Nat) (ad : Option Addr) (had : 0 < n → ad = some ⟨g, o, none⟩) (w : World) (hown : OwnV w B v vs) (hB : B ≤ w.heap.size) (hl : vs.length ≤ 1000000000) (hn : n ≤ 1000000000) (hnc : n ≤ c)
    (hbs : Blk w bs #[.slice ad n c] 33) (hbn : Blk w bn #[.int .i64 32] 3) (hs1 : v.ownBlock ≠ some bs) (hs2 : v.ownBlock ≠ some bn) :
    Calls Tryz.prog 101 #[v, .func (.func 173) #[] #[.pointer (some ⟨bs, 0, none⟩), .pointer (some ⟨bn, 0, none⟩)]] w fun e w' =>
      ∃ v', e = .returned v' ∧ OwnV w' B v' (vs ++ upto (chV g o n) (chN n)) ∧ Keeps w w' (ownL v ++ [bs, bn]) := by
  obtain ⟨i0, hi, hz0, hz1, hz2⟩ := info_parts Tryz.infoSl
  obtain ⟨a1, c1, rfl⟩ := own_form hown
  have hbl1 := hbs.lt
  have hbl2 := hbn.lt
  have bo0 : Blk (w.alloc (.cells #[.slice a1 vs.length c1] 22)) w.heap.size #[.slice a1 vs.length c1] 22 := Blk.new w _ _
  have kz : Keeps w (w.alloc (.cells #[.slice a1 vs.length c1] 22)) [] := (Keeps.refl w []).alloc _
  have ow0 := own_keeps hown kz
  have hsz : (w.alloc (.cells #[.slice a1 vs.length c1] 22)).heap.size = w.heap.size + 1 := by simp
  have hlg : ∀ g, (Value.slice a1 vs.length c1).ownBlock = some g → g < w.heap.size := fun g hg => (World.ownsRow.lt hown g hg).2
  have bs0 := hbs.keeps kz (by simp)
  have bn0 := hbn.keeps kz (by simp)
  have hcn : chN n ≤ 1000000000 := by unfold chN; omega
  obtain ⟨S0, hS0⟩ : ∃ S0, S0 = ownL (.slice a1 vs.length c1) := ⟨_, rfl⟩
  have hS1 : ∀ j, j ∈ S0 → j < w.heap.size ∧ j ≠ bs ∧ j ≠ bn := fun j hj => by
    rw [hS0, mem_ownL] at hj
    exact ⟨hlg j hj, fun e => hs1 (e ▸ hj), fun e => hs2 (e ▸ hj)⟩
  have hS2 : ∀ g, (Value.slice a1 vs.length c1).ownBlock = some g → g ∈ S0 := fun g hg => by rw [hS0, mem_ownL]; exact hg
  rw [← hS0]
  have HS1 := Lib.hid hS1
  have HS2 := Lib.hid hS2
  have HLG := Lib.hid hlg
  have HAD := Lib.hid had
  clear had
  clear hown hS0 hs1 hs2 hS1 hS2 hlg hbs hbn
  refine calls_of_marks Tryz.func101 rfl ?_
  simp only [Tryz.ntmps101, List.size_toArray, List.length_cons, List.length_nil, Nat.reduceAdd, Nat.reduceSub, Array.replicate_succ, Array.replicate_zero, List.push_toArray, List.append_toArray, List.nil_append, List.cons_append]
  go_wp2_with fail
  generalize (w.alloc (.cells #[.slice a1 vs.length c1] 22)) = Z at *
  refine range_PY (gf := 173) (lb := #[.pointer (some ⟨bs, 0, none⟩), .pointer (some ⟨bn, 0, none⟩)]) rfl (enters_of Tryz.func173 (by kernel_rfl) rfl)
      (chunk1_seq bs bn g o n c ad HAD.out Z hn hnc bs0 bn0) (by simp; omega) (fun _ => rfl) 0
      (fun pre W => ∃ a c, Blk W w.heap.size #[.slice a (vs ++ pre).length c] 22 ∧ OwnV W B (.slice a (vs ++ pre).length c) (vs ++ pre) ∧ Keeps w W (S0 ++ [bs, bn]) ∧ (∀ g, (Value.slice a (vs ++ pre).length c).ownBlock = some g → g ∈ S0 ∨ w.heap.size + 3 ≤ g))
      (fun pre W => False)
      (fun W => ∃ a c, Blk W w.heap.size #[.slice a (vs ++ upto (chV g o n) (chN n)).length c] 22 ∧ OwnV W B (.slice a (vs ++ upto (chV g o n) (chN n)).length c) (vs ++ upto (chV g o n) (chN n)) ∧ Keeps w W (S0 ++ [bs, bn]))
      ?hI ?hIx ?h0 ?hround ?hdone ?hstop ?hex ?hrest
  case hI =>
    rintro s A B ⟨a2, c2, bo, ow, kw, hn2⟩ hab
    rw [hsz] at hab
    refine ⟨a2, c2, bo.keeps hab (by simp; omega), own_moveO ow (fun g hg => ?_), kw.trans hab (fun j hj hlt => by simp at hj; rcases hj with rfl | rfl | rfl | rfl <;> first | (simp; done) | omega), hn2⟩
    have h1 := hn2 g hg
    refine hab.block g (World.ownsRow.lt ow g hg).2 ?_
    rcases h1 with h1 | h1
    · have := HS1.out g h1
      simp; omega
    · simp; omega
  case hIx => exact fun s A B h _ => h
  case hstop => exact fun pre X _ h => h.elim
  case hex => exact fun a' W h => by simpa [Exit.inBlock, Exit.noGoto] using h
  case h0 => exact ⟨a1, c1, by simpa using bo0, by simpa using ow0, kz.mono (by simp), fun g hg => .inl (HS2.out g (by simpa using hg))⟩
  case hdone =>
    rintro xs W hS ⟨a2, c2, bo, ow, kw, -⟩
    rw [hS] at bo ow
    exact ⟨a2, c2, bo, ow, kw⟩
  case hround =>
    rintro l pre x W hl hlt hD - ⟨a2, c2, bo, ow, kw, hn2⟩ hsp
    have hpl : (vs ++ pre).length + 1 ≤ 2000000001 := by have h1 := hsp.length_le; simp [upto_length] at h1 ⊢; omega
    obtain ⟨hkl, hxx⟩ : x.oneCell' = true ∧ ∃ k, x = chV g o n k := by
      obtain ⟨ys, hy⟩ := hsp
      have hm : x ∈ upto (chV g o n) (chN n) := by rw [← hy]; simp
      obtain ⟨k, -, rfl⟩ := List.mem_map.1 hm
      exact ⟨rfl, k, rfl⟩
    obtain ⟨k, rfl⟩ := hxx
    obtain ⟨xa, xn, xc, hxv⟩ : ∃ xa xn xc, chV g o n k = .slice xa xn xc := ⟨_, _, _, rfl⟩
    rw [hxv] at hkl hsp ⊢
    gi_wp2
    refine ⟨SameAt.refl _ _, fun W2 hT => ?_⟩
    subst hl
    rw [hsz] at hT hD hlt
    have bo2 := hT.blk bo
    have hlw := kw.size
    have ow2 : OwnV W2 B (.slice a2 (vs ++ pre).length c2) (vs ++ pre) := own_moveO ow (fun g hg => hT.keeps.block g (World.ownsRow.lt ow g hg).2 (by rcases hn2 g hg with h1 | h1; (have := HS1.out g h1; simp; omega); (simp; omega)))
    have kw2 : Keeps w W2 (S0 ++ [bs, bn]) := kw.trans hT.keeps (fun j hj hlt => by simp at hj; omega)
    have hszT := hT.size
    have hSX : Hid (SameAt [bs, bn, w.heap.size + 1] W W2) := fun k hk => hT.keeps.block k (by have h := (Array.getElem?_eq_some_iff.1 hD).1; simp at hk; omega) (by simp at hk ⊢; omega)
    obtain ⟨r0, r1, hr0, hr1⟩ := hT
    clear hr0 hr1 r0 r1 bo ow kw hsp
    have hlb := bo2.lt
    have ow3 := own_keeps ow2 ((Keeps.refl W2 []).alloc (.cells #[.slice xa xn xc] 33))
    have hm : (vs ++ pre) ++ [Value.slice xa xn xc] = vs ++ (pre ++ [Value.slice xa xn xc]) := by simp
    have hm' : (vs ++ (pre ++ [Value.slice xa xn xc])).length = (vs ++ pre).length + 1 := by simp; omega
    have hge : ∀ k, (Value.slice a2 (vs ++ pre).length c2).ownBlock = some k → B ≤ k := fun k hk => (World.ownsRow.lt ow2 k hk).1
    generalize (vs ++ pre) = xs at *
    generalize xs.length = N at *
    obtain ⟨cb, -⟩ := bo2.one
    have HM := Lib.hid hm
    have HM' := Lib.hid hm'
    have OW3 := Lib.hid ow3
    have HN2 := Lib.hid hn2
    have HGE := Lib.hid hge
    have BO2 := Lib.hid bo2
    have HD2 := Lib.hid hD
    have HSZT := Lib.hid hszT
    have HSZ := Lib.hid hsz
    have hW2 : w.heap.size + 3 ≤ W2.heap.size := by rw [hszT]; omega
    clear hm hm' ow3 hD ow2 hge bo2 hn2 hszT hsz
    have HNW : Hid (∀ (j : Nat) (u : Value), [Value.slice xa xn xc][j]? = some u → (W2.alloc (.cells #[.slice xa xn xc] 33)).cell? (Addr.add ⟨W2.heap.size, 0, none⟩ j) = some u) := own_news1 (Blk.new W2 _ _)
    gi_wp2_with (gi_at_builtin; go_loud (refine wpListIn_append_own_at _ rfl _ _ 22 rfl B 33 i0 (.slice none 0 0) 1 24 Tryz.underlying22 hi hz0 hz1 hz2 rfl (by decide) (.slice a2 N c2) N xs rfl OW3.out _ 1 1 [.slice xa xn xc] rfl rfl HNW.out (by simp [Value.oneCell']) (by unfold maxLen; omega) (by omega) (by simp; omega) ?_; intro v3 w3 own3 g3 _ at3; obtain ⟨a3, c3, rfl⟩ := own_form own3; have bo3 : Blk w3 w.heap.size #[.slice a2 N c2] 22 := (g3.block _ (by simp; omega) (fun e => by rcases HN2.out _ e.symm with h1 | h1; (have h2 := HS1.out _ h1; omega); omega)).trans (BO2.out.alloc _); obtain ⟨cb3, cf3⟩ := bo3.one))
    have hg2 : ∀ b, b < w.heap.size + 3 → b ∉ S0 → (Value.slice a2 N c2).ownBlock ≠ some b := fun b hb hn e => by
      rcases HN2.out _ e with h1 | h1
      · exact hn h1
      · omega
    have st : ∀ (k : Nat) (o : Obj), W2.heap[k]? = some o → (Value.slice a2 N c2).ownBlock ≠ some k → w3.heap[k]? = some o := fun k o hk hne => by
      have hlt := (Array.getElem?_eq_some_iff.1 hk).1
      exact (g3.block k (by simp; omega) (fun e => hne e.symm)).trans ((((Keeps.refl W2 []).alloc _).block k hlt (by simp)).trans hk)
    have nS : ∀ k, w.heap.size ≤ k → k ∉ S0 := fun k hk hm => by have := HS1.out k hm; omega
    have nbs : bs ∉ S0 := fun hm => (HS1.out bs hm).2.1 rfl
    have nbn : bn ∉ S0 := fun hm => (HS1.out bn hm).2.2 rfl
    have hat : ∀ g, (Value.slice a3 (N + 1) c3).ownBlock = some g → g ∈ S0 ∨ w.heap.size + 3 ≤ g := fun g hg => by
      rcases at3 with h | h
      · exact HN2.out g (h ▸ hg)
      · right
        have e2 : g = (W2.alloc (.cells #[.slice xa xn xc] 33)).heap.size := by rw [h] at hg; cases hg; rfl
        rw [e2]; simp; omega
    have own3' : OwnV w3 B (.slice a3 (vs ++ (pre ++ [Value.slice xa xn xc])).length c3) (vs ++ (pre ++ [Value.slice xa xn xc])) := by
      have h := own3
      rw [HM.out] at h
      unfold OwnV
      rw [HM'.out]
      exact h
    have ks : Keeps w3 (w3.setCell ⟨w.heap.size, 0, none⟩ (.slice a3 (N + 1) c3)) [w.heap.size] := (Keeps.refl w3 [w.heap.size]).setCell (.inr (by simp)) _
    have kg : Keeps W2 w3 (ownL (.slice a2 N c2)) := ((Keeps.refl W2 _).alloc _).trans (Keeps.of_grown g3 (fun k hk => mem_ownL.2 hk)) (fun j hj _ => hj)
    have sa : SameAt [bs, bn, w.heap.size + 1, w.heap.size + 1 + 1] W2 (w3.setCell ⟨w.heap.size, 0, none⟩ (.slice a3 (N + 1) c3)) := fun k hk => by
      have hk' : k < w.heap.size + 3 ∧ k ∉ S0 ∧ k ≠ w.heap.size := by
        simp at hk
        rcases hk with rfl | rfl | rfl | rfl
        · exact ⟨by omega, nbs, by omega⟩
        · exact ⟨by omega, nbn, by omega⟩
        · exact ⟨by omega, nS _ (by omega), by omega⟩
        · exact ⟨by omega, nS _ (by omega), by omega⟩
      have hne := hg2 k hk'.1 hk'.2.1
      have e1 : w3.heap[k]? = W2.heap[k]? := kg.block k (by omega) (fun hm => hne (mem_ownL.1 hm))
      exact (ks.block k (by have := kg.size; omega) (by simpa using hk'.2.2)).trans e1
    refine ⟨?_, a3, c3, ?_, ?_, ?_, ?_⟩
    · rw [HSZ.out]
      exact fun k hk => sa k (by simpa using hk)
    · rw [HM'.out]
      exact bo3.set 0 _
    · exact own_moveO own3' (fun g hg => ks.block g (World.ownsRow.lt own3' g hg).2 (by
        rw [HM'.out] at hg
        rcases hat g hg with h | h
        · have := HS1.out g h; simp; omega
        · simp; omega))
    · refine (kw2.trans kg (fun j hj hlt => ?_)).trans ks (fun j hj hlt => ?_)
      · rcases HN2.out j (mem_ownL.1 hj) with h | h
        · exact List.mem_append.2 (.inl h)
        · omega
      · simp at hj; omega
    · rw [HM'.out]
      exact hat
  case hrest =>
    rintro D X hD hK ⟨a2, c2, bo, ow, kw⟩
    rw [hsz] at hD
    obtain ⟨cb, -⟩ := bo.one
    have OW := Lib.hid ow
    have ne := own_neO ow hK (fun cs h => by cases h)
    have NE := Lib.hid ne
    generalize hN : (vs ++ upto (chV g o n) (chN n)).length = N at cb
    have HN := Lib.hid hN
    clear ow ne bo hN hsz
    simp only [Exit.inBlock, Exit.then]
    go_wp2_with fail
    refine ⟨by simp, .inl ⟨_, _, rfl, run_takeDeferred hK, ?_⟩⟩
    have kp : Keeps X (X.putObj D (.deferred none)) [D] := keeps_put
    refine ⟨.slice a2 N c2, by simp [results, Tryz.results101], ⟨_, rfl, ?_, kw.trans kp (fun j hj hlt => by simp at hj; omega)⟩⟩
    rw [← HN.out]
    exact own_moveO OW.out (fun g hg => kp.block g (World.ownsRow.lt OW.out g hg).2 (by simp; rintro rfl; exact NE.out hg))


end Go.Proofs.YtogengangfohfaaGreat
