/-
  Increasing: its walk, and its iterator's contract.
-/
import Derived.Test.YtedojgbjfenmaaaU6
import Derived.Test.YtedojgbjfenmaaaUp
import Derived.Test.YtedojgbjfenmaaaScp
namespace Go.Proofs.Ytedojgbjfenmaaa
set_option linter.unusedVariables false
set_option linter.unusedSimpArgs false
open Go.RowKit

set_option maxHeartbeats 2000000 in
theorem incr_any (v : Value) (l : List Int) (w : World) (hv : RdI .i64 w v l) (hn : l.length ≤ 1000000) :
    Calls Try.prog 35 #[v] w (IncEnd w l) := by
  have hmf : ∀ (fn : Fn) (first cap : Array Value) (w : World), (Instr.makeFunc fn first cap).run Try.prog w = .ok (.func fn first cap) w := fun _ _ _ _ => rfl
  have HCL := Lib.hid (fun w' (k : Keeps w w' []) => clone_any v l w' (hv.keeps k) hn)
  have HN := Lib.hid hn
  obtain ⟨A0, n, cp0, rfl, hnl, -⟩ := hv.form
  cases hr : rightL l with
  | false =>
    have HG := Lib.hid (toldL_no 52 _ l _ hv hn hr)
    have HR := Lib.hid hr
    clear hv hr hnl
    go_enter Try.func35, Try.ntmps35
    go_wp2_with fail
    refine HG.out.mono ?_
    rintro e w1 ⟨rfl, k1⟩
    go_wp2_with fail
    refine (HCL.out _ (k1.alloc _)).mono ?_
    rintro e w3 ⟨vo, rfl, own3, k3⟩
    obtain ⟨ad3, cp3, rfl⟩ := own_form own3
    have O3 := Lib.hid own3
    have b1 := (Blk.new w1 #[.slice none 0 0] 26).keeps k3 (by simp)
    obtain ⟨c1, -⟩ := (b1.alloc (.cells #[.slice ad3 l.length cp3] 26)).one
    clear own3
    go_wp2_with fail
    refine (sortStable_none _ _).mono ?_
    rintro e w5 ⟨rfl, rfl⟩
    go_wp2_with fail
    go_ret
    refine ⟨w1.heap.size, w3.heap.size, .slice none 0 0, .slice ad3 l.length cp3, [], rfl, b1.alloc _, Blk.new _ _ _, RdI.nil, (own_reads O3.out).keeps ((Keeps.refl w3 []).alloc _), ?_, by simp, k1.size, ?_, fun ad n cp h => by (cases h), fun ad n cp h => ?_, ((k1.alloc _).then k3).alloc _⟩
    · simp [Rising, HR.out]
    · have := k1.size; have := k3.size; simp at this; omega
    · cases h
      have h1 := O3.out.lt ad.block rfl
      have := k1.size
      simp at h1 ⊢
      omega
  | true =>
    have HG := Lib.hid (toldL 52 (usedL l) _ l _ hv hn hr (enters_of Try.func52 (by kernel_rfl) rfl) (incr1_any _ l _ hv hn))
    have HR := Lib.hid hr
    have HU : Hid (∀ s ∈ usedL l, ∃ j : Nat, s = (j : Int) ∧ j < l.length) := fun s hs => by
      obtain ⟨j, h1, x, h2, -⟩ := usedL_mem hs
      exact ⟨j, h1, (List.getElem?_eq_some_iff.1 h2).1⟩
    have hul : (usedL l).length ≤ 1000000 := by have := usedL_len l; omega
    clear hv hr hnl
    go_enter Try.func35, Try.ntmps35
    go_wp2_with fail
    refine HG.out.mono ?_
    rintro e w1 ⟨vu, rfl, own1, k1⟩
    obtain ⟨ad1, cp1, rfl⟩ := own_form own1
    have O1 := Lib.hid own1
    clear own1
    go_wp2_with fail
    refine (HCL.out _ (k1.alloc _)).mono ?_
    rintro e w3 ⟨vo, rfl, own3, k3⟩
    obtain ⟨ad3, cp3, rfl⟩ := own_form own3
    have O3 := Lib.hid own3
    have b1 := (Blk.new w1 #[.slice ad1 (usedL l).length cp1] 26).keeps k3 (by simp)
    obtain ⟨c1, -⟩ := (b1.alloc (.cells #[.slice ad3 l.length cp3] 26)).one
    have hs1 := k1.size
    have hs3 := k3.size
    simp only [World.size_alloc] at hs3
    have hO3 : ∀ ad, ad3 = some ad → w1.heap.size + 1 ≤ ad.block ∧ ad.block < w3.heap.size := fun ad h => by
      have h1 := O3.out.lt ad.block (by rw [h]; rfl)
      simpa using h1
    have r3 := Lib.hid ((own_reads O3.out).keeps ((Keeps.refl w3 []).alloc (.cells #[.slice ad3 l.length cp3] 26)))
    have bo := Blk.new w3 #[.slice ad3 l.length cp3] 26
    have HO3 := Lib.hid hO3
    clear own3 hO3
    go_wp2_with fail
    rcases O1.out.2 with ⟨e1, e2⟩ | ⟨g, cap, cur, e1, -⟩
    · injection e1 with q1 q2 q3
      have hU : usedL l = [] := by simpa using e2
      subst q1 q3
      rw [hU]
      simp only [List.length_nil]
      refine (sortStable_none _ _).mono ?_
      rintro e w5 ⟨rfl, rfl⟩
      go_wp2_with fail
      go_ret
      rw [hU] at b1
      refine ⟨w1.heap.size, w3.heap.size, .slice none 0 0, .slice ad3 l.length cp3, [], rfl, b1.alloc _, bo, RdI.nil, r3.out, ?_, by simp, hs1, by omega, fun ad n cp h => by (cases h), fun ad n cp h => ?_, ((k1.alloc _).then k3).alloc _⟩
      · simp [Rising, HR.out, hU, EqF, Srt]
      · cases h
        have h1 := HO3.out _ rfl
        simp; omega
    · injection e1 with q1 q2 q3
      subst q1 q3
      have hg := O1.out.lt g rfl
      have row : RowI (w3.alloc (.cells #[.slice ad3 l.length cp3] 26)) g (usedL l).length cp1 (usedL l) :=
        ⟨rfl, own_base (own_keeps (own_keeps O1.out (((Keeps.refl w1 []).alloc (.cells #[.slice (some ⟨g, 0, none⟩) (usedL l).length cp1] 26)).then k3)) ((Keeps.refl w3 []).alloc _)) (Nat.zero_le _)⟩
      have cok := incr2_ok w3.heap.size g _ l _ bo r3.out (rightL_iff.1 HR.out).2 HN.out (by omega) (fun ad n cp h h0 hb => by cases h; have := (HO3.out _ rfl).1; omega)
      refine (sortStable_any g (usedL l).length cp1 (usedL l) 54 _ (keyC l) _ _ (enters_of Try.func54 (by kernel_rfl) rfl) row cok HU.out hul).mono ?_
      rintro e w5 ⟨rfl, ⟨Z, r5, e5, s5⟩, k5⟩
      go_wp2_with fail
      go_ret
      refine ⟨w1.heap.size, w3.heap.size, .slice (some ⟨g, 0, none⟩) (usedL l).length cp1, .slice ad3 l.length cp3, Z, rfl, (b1.alloc _).keeps k5 (by simp; omega), bo.keeps k5 (by simp; omega), r5.reads, r3.out.keepsS k5 (fun ad n cp h h0 hm => by cases h; have := (HO3.out _ rfl).1; have := List.mem_singleton.1 hm; omega), ?_, fun s hs => HU.out s (e5.mem.2 hs), hs1, by omega, fun ad n cp h => ?_, fun ad n cp h => ?_, (((k1.alloc _).then k3).alloc _).trans k5 (fun x hx hlt => by have := List.mem_singleton.1 hx; omega)⟩
      · simp only [Rising, HR.out, if_true]; exact ⟨e5, s5⟩
      · cases h
        have := k5.size
        simp at this ⊢
        omega
      · cases h
        have h1 := HO3.out _ rfl
        have := k5.size
        simp at this ⊢
        omega

attribute [local go_sem] Oper.semAt_some

abbrev itemR (l Z : List Int) (k : Nat) : Int × Int := ((Z[k]?).getD 0, keyC l ((Z[k]?).getD 0))

set_option maxRecDepth 100000 in
set_option maxHeartbeats 2000000 in
theorem incr3_seq (bs bo : Nat) (az ao : Option Addr) (ns cs no co : Nat) (l Z : List Int) (w : World) (hbs : Blk w bs #[.slice az ns cs] 26) (hbo : Blk w bo #[.slice ao no co] 26) (hz : RdI .i64 w (.slice az ns cs) Z) (hl : RdI .i64 w (.slice ao no co) l)
    (hZ : ∀ s ∈ Z, ∃ j : Nat, s = (j : Int) ∧ j < l.length) (hnl : l.length ≤ 1000000) (hnz : Z.length ≤ 1000000) :
    SeqB Try.prog 55 #[.pointer (some ⟨bs, 0, none⟩), .pointer (some ⟨bo, 0, none⟩)] encP (fun k => k ≠ bo ∧ (∀ p, az = some p → 0 < ns → k ≠ p.block) ∧ (∀ p, ao = some p → 0 < no → k ≠ p.block))
      (fun ys => ys = upto (itemR l Z) Z.length) (fun pre => pre <+: upto (itemR l Z) Z.length) w := by
  intro lo C J Jx W hW hC hJ hJx hY h0
  have hbs' := hbs.keeps (Keeps.of_below hW) (by simp)
  have hbo' := hbo.keeps (Keeps.of_below hW) (by simp)
  have hz' := hz.keeps (Keeps.of_below hW)
  have hl' := hl.keeps (Keeps.of_below hW)
  have hnl' : no = l.length := hl.len
  have hnz' : ns = Z.length := hz.len
  obtain ⟨c0, -⟩ := hbs'.one
  have HZ := Lib.hid hz'
  have HL := Lib.hid hl'
  have HBO := Lib.hid hbo'
  have HN := Lib.hid hnl'
  have HNZ := Lib.hid hnz'
  have HY := Lib.hid hY
  have HJ := Lib.hid hJ
  have HC := Lib.hid hC
  have HS := Lib.hid hZ
  have hn' : ns ≤ 1000000 := by omega
  have hn2 : no ≤ 1000000 := by omega
  clear hbs hbo hz hl hbs' hbo' hz' hl' hnl' hnz' hY hJ hJx hC hZ hnl hnz
  refine callsIn_of_wp Try.func55 rfl trivial ?_ rfl
  simp only [Try.ntmps55, List.size_toArray, List.length_cons, List.length_nil, Nat.reduceAdd, Nat.reduceSub, Array.replicate_succ, Array.replicate_zero, List.push_toArray, List.append_toArray, List.nil_append, List.cons_append]
  gi_wp2
  refine wpIn_scope ?_
  refine wpIn_seq ?_
  apply wpIn_label
  gi_wp2
  gi_loopw [8] (fun i wr => ∃ k : Nat, k ≤ ns ∧ i = .int .i64 k ∧ Hid (J (upto (itemR l Z) k) wr) ∧ Keeps W wr C)
    (fun i _ => ns - (intOf i).toNat)
  case atStart => exact ⟨0, Nat.zero_le _, rfl, h0, Keeps.refl _ _⟩
  case round =>
    obtain ⟨k, hk, rfl, hJs, hkw⟩ := hrel
    by_cases hlt : k < ns
    · obtain ⟨x, hx⟩ : ∃ x, Z[k]? = some x := ⟨_, List.getElem?_eq_getElem (by have := HNZ.out; omega)⟩
      obtain ⟨b, o, rfl, hb, e0⟩ := HZ.out.at hx
      have hbC : b ∉ C := fun hm => (HC.out b hm).2.2.1 _ rfl (by omega) rfl
      replace e0 := hkw.cellsAt hb hbC e0
      obtain ⟨j, rfl, hj⟩ := HS.out x (List.mem_of_getElem? hx)
      obtain ⟨y, hy0⟩ : ∃ y, l[j]? = some y := ⟨_, List.getElem?_eq_getElem hj⟩
      obtain ⟨b2, o2, rfl, hb2, e2⟩ := HL.out.at hy0
      have hbC2 : b2 ∉ C := fun hm => (HC.out b2 hm).2.2.2 _ rfl (by have := HN.out; omega) rfl
      replace e2 := hkw.cellsAt hb2 hbC2 e2
      have hboC : bo ∉ C := fun hm => (HC.out bo hm).2.1 rfl
      obtain ⟨e3, -⟩ := (HBO.out.keeps hkw hboC).one
      have hi : itemR l Z k = ((j : Int), y) := by simp [itemR, hx, keyC_at hy0]
      have hyy := HY.out (upto (itemR l Z) k) (itemR l Z k) wr hJs.out (by rw [← upto_succ]; exact upto_prefix _ (by have := HNZ.out; omega))
      rw [hi] at hyy
      obtain ⟨fn, tmps, assign, body, hy, hR⟩ := hyy
      dsimp only [encP] at hy
      have hcap : ns ≤ cs := HZ.out.cap
      have hcap2 : no ≤ co := HL.out.cap
      have hjn : (j : Int) < (no : Int) := by have := HN.out; omega
      have hj0 : (0 : Int) ≤ (j : Int) := Int.natCast_nonneg _
      have hjn2 : j < no := by have := HN.out; omega
      clear hx hy0 hj
      have HI := Lib.hid hi
      clear hi
      gi_wp2
      refine (round_any hR).mono ?_
      rintro e W3 (⟨rfl, hJ3, hk3⟩ | ⟨rfl, hJx3, hk3⟩)
      · gi_wp2
        go_roundw
        case rel =>
          refine ⟨k + 1, by omega, by simp, ?_, (hkw.trans hk3 (fun x hx _ => hx))⟩
          show J _ _
          rw [upto_succ, HI.out]
          exact hJ3
        case measure => simp [intOf]; omega
      · gi_wp2
        simp only [Exit.noGoto]
        go_end0
        refine ⟨⟨_, rfl⟩, .inr ⟨_, ?_, hJx3⟩⟩
        rw [← HI.out, ← upto_succ]
        exact upto_prefix _ (by have := HNZ.out; omega)
    · obtain rfl : k = ns := by omega
      gi_wp2
      simp only [Exit.noGoto]
      go_end0
      exact ⟨⟨_, rfl⟩, .inl ⟨_, by rw [← HNZ.out], hJs.out⟩⟩

end Go.Proofs.Ytedojgbjfenmaaa
