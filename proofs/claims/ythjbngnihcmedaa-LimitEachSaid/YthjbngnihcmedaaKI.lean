/-
  How often each length occurs: the reference's Many, LengthCounts and its iterator.
-/
import Derived.Test.YthjbngnihcmedaaKH
import Derived.Test.YthjbngnihcmedaaUp
import Derived.Test.YthjbngnihcmedaaScp
import Derived.Test.YthjbngnihcmedaaJI
namespace Go.Proofs.Ythjbngnihcmedaa
set_option linter.unusedVariables false
set_option linter.unusedSimpArgs false
set_option linter.unusedSectionVars false
open Go.RowKit

def ints (h : List Int) : Array Value := (h.map (Value.int .i64)).toArray
theorem ints_set (h : List Int) (i : Nat) (x : Int) : (ints h).setIfInBounds i (.int .i64 x) = ints (h.set i x) := by simp [ints, List.map_set]
theorem ints_get {h : List Int} {i : Nat} {x : Int} (hx : h[i]? = some x) : (ints h)[i]? = some (.int .i64 x) := by simp [ints, hx]

/-- How often i + d occurs, for i below n. -/
def manyR (l : List Int) (d n : Nat) : List Int := (List.range n).map fun i => ((l.count ((i + d : Nat) : Int) : Nat) : Int)
theorem manyR_len (l : List Int) (d n : Nat) : (manyR l d n).length = n := by simp [manyR]
theorem manyR_get {l : List Int} {d n i : Nat} (h : i < n) : (manyR l d n)[i]? = some ((l.count ((i + d : Nat) : Int) : Nat) : Int) := by
  unfold manyR
  rw [List.getElem?_map, List.getElem?_range h]; rfl
theorem manyR_nil (d n : Nat) : manyR [] d n = List.replicate n 0 := by
  apply List.ext_getElem?
  intro i
  by_cases h : i < n
  · rw [manyR_get h, List.getElem?_replicate, if_pos h]; simp
  · rw [List.getElem?_eq_none (by rw [manyR_len]; omega), List.getElem?_eq_none (by simp; omega)]
theorem manyR_snoc {l : List Int} {d n i : Nat} (h : i < n) : manyR (l ++ [((i + d : Nat) : Int)]) d n = (manyR l d n).set i (((l.count ((i + d : Nat) : Int) : Nat) : Int) + 1) := by
  apply List.ext_getElem?
  intro j
  by_cases hj : j < n
  · rw [manyR_get hj]
    by_cases hij : i = j
    · subst hij
      rw [List.getElem?_set_self (by rw [manyR_len]; exact h), List.count_append]
      simp
    · rw [List.getElem?_set_ne hij, manyR_get hj, List.count_append]
      have : List.count ((j + d : Nat) : Int) [((i + d : Nat) : Int)] = 0 := by
        rw [List.count_eq_zero]; intro hm; have := List.mem_singleton.1 hm; omega
      rw [this]; simp
  · rw [List.getElem?_eq_none (by rw [manyR_len]; omega), List.getElem?_eq_none (by rw [List.length_set, manyR_len]; omega)]
theorem manyR_skip {l : List Int} {d n : Nat} {x : Int} (h : x < (d : Int)) : manyR (l ++ [x]) d n = manyR l d n := by
  apply List.ext_getElem?
  intro j
  by_cases hj : j < n
  · rw [manyR_get hj, manyR_get hj, List.count_append]
    have : List.count ((j + d : Nat) : Int) [x] = 0 := by
      rw [List.count_eq_zero]; intro hm; have := List.mem_singleton.1 hm; omega
    rw [this]; simp
  · rw [List.getElem?_eq_none (by rw [manyR_len]; omega), List.getElem?_eq_none (by rw [manyR_len]; omega)]
def mostN (l : List Int) : Nat := (maxOut l).toNat
theorem mostN_le (l : List Int) : mostN l ≤ 60 ∧ (maxOut l) = (mostN l : Int) := by
  unfold mostN maxOut
  split
  · rename_i h
    unfold maxErr at h
    split at h
    · rename_i h2
      rw [maxOf_eq (within_nonneg h2)]
      have h3 := mxL_nonneg l
      have h4 := mxL_le (l := l) (m := 60) (by decide) (fun x hx => ((withinL_iff.1 h2).2 x hx).2)
      omega
    · omega
  · decide
theorem maxErr_fine {l : List Int} (h : maxErr l = 0) : withinL 60 l = true ∧ maxOut l = mxL l := by
  have h1 : withinL 60 l = true := by
    unfold maxErr at h
    split at h
    · assumption
    · omega
  exact ⟨h1, by rw [maxOut, if_pos h, maxOf_eq (within_nonneg h1)]⟩
theorem count_le (l : List Int) (x : Int) : l.count x ≤ l.length := List.count_le_length

set_option maxHeartbeats 2000000 in
theorem r_many (v : Value) (l : List Int) (w : World) (hv : RdI .i64 w v l) (hn : l.length ≤ 1000000) :
    Calls Try.prog 31 #[v] w fun e w' => ∃ u, e = .returned u ∧ RdI .i64 w' u (manyR l 1 (mostN l)) ∧ (∀ ad n c, u = .slice (some ad) n c → w.heap.size ≤ ad.block) ∧ Keeps w w' [] := by
  have HG := Lib.hid (r_greatest v l w hv hn)
  have HV := Lib.hid hv
  obtain ⟨A0, n, cp0, rfl, hnl, -⟩ := hv.form
  by_cases hE : maxErr l = 0
  · obtain ⟨h60, hmx⟩ := maxErr_fine hE
    obtain ⟨hM, hMe⟩ := mostN_le l
    rw [hE, hMe] at HG
    have hxb : Hid (∀ x ∈ l, 0 ≤ x ∧ x ≤ (mostN l : Int)) := fun x hx => ⟨within_nonneg h60 x hx, by rw [← hMe, hmx]; exact mxL_ge hx⟩
    obtain ⟨M, hMM⟩ : ∃ M, M = mostN l := ⟨_, rfl⟩
    rw [← hMM] at HG hM hxb ⊢
    have HN := Lib.hid hnl
    have hn256 : n ≤ 256 := by have := (withinL_iff.1 h60).1; omega
    have hmk := fun w => make_cells M (by omega) w
    clear hv hnl h60 hmx hMe hE hMM hn
    go_enter Try.func31, Try.ntmps31
    go_wp2_with fail
    refine HG.out.mono ?_
    rintro e w' ⟨rfl, hw⟩
    subst w'
    go_wp2_with fail
    have hb0 : Hid (Blk (w.alloc (.cells (repL M 0 0).toArray 3)) w.heap.size (ints (manyR (l.take 0) 1 M)) 3) := by
      have h := Blk.new w (repL M 0 0).toArray 3
      have e : (repL M 0 0).toArray = ints (manyR (l.take 0) 1 M) := by
        rw [List.take_zero, manyR_nil]; simp [ints, repL]
      rw [e] at h ⊢
      exact h
    have hk0 : Keeps w (w.alloc (.cells (repL M 0 0).toArray 3)) [] := (Keeps.refl w []).alloc _
    generalize (w.alloc (.cells (repL M 0 0).toArray 3)) = w1 at *
    clear HG hmk
    go_loopw [6] (fun s6 wr => ∃ k : Nat, k ≤ n ∧ s6 = .int .i64 k ∧ Hid (Blk wr w.heap.size (ints (manyR (l.take k) 1 M)) 3) ∧ Keeps w wr []) (fun s6 _ => n - (intOf s6).toNat)
    case atStart => exact ⟨0, Nat.zero_le _, rfl, hb0, hk0⟩
    case round =>
      obtain ⟨k, hk, rfl, hB, kk⟩ := hrel
      clear hb0 hk0
      by_cases hlt : k < n
      · obtain ⟨x, hx⟩ : ∃ x, l[k]? = some x := ⟨_, List.getElem?_eq_getElem (by have := HN.out; omega)⟩
        have hxm := hxb.out x (List.mem_of_getElem? hx)
        obtain ⟨b, o, rfl, hb, hc⟩ := (HV.out.keeps kk).at hx
        have hcap := HV.out.cap
        have hkn : (k : Int) < (n : Int) := by omega
        have hk00 : (0 : Int) ≤ (k : Int) := Int.natCast_nonneg _
        have HTK := Lib.hid (take_next hx)
        clear hx
        by_cases h0 : 0 < x
        · obtain ⟨X, rfl⟩ : ∃ X : Nat, x = ((X + 1 : Nat) : Int) := ⟨x.toNat - 1, by omega⟩
          have hXM : X < M := by omega
          have c0 := hB.out.cell X
          rw [ints_get (manyR_get hXM)] at c0
          have f0 := hB.out.frozen X
          have hcl := count_le (l.take k) ((X + 1 : Nat) : Int)
          have hlk : (l.take k).length ≤ 256 := by have := HN.out; simp; omega
          have e1 : IntKind.i64.wrap (((X + 1 : Nat) : Int) - 1) = (X : Int) := by rw [IntWalk.i64_in _ (by omega)]; omega
          have e2 : ((X + 1 : Nat) : Int) - 1 = (X : Int) := by omega
          have e3 : ((X + 1 : Nat) : Int) = (X : Int) + 1 := by omega
          have HST := Lib.hid (manyR_snoc (l := l.take k) (d := 1) hXM)
          obtain ⟨C, hC⟩ : ∃ C, C = (l.take k).count ((X + 1 : Nat) : Int) := ⟨_, rfl⟩
          rw [← hC] at c0 hcl HST
          have hXI : (X : Int) < (M : Int) := by omega
          have hX0 : (0 : Int) ≤ (X : Int) := Int.natCast_nonneg _
          have hM60 : (M : Int) ≤ 60 := by omega
          rw [e3] at hc h0
          have HE1 := Lib.hid e1
          clear hC e1 e2 e3 hxm
          have e4 : IntKind.i64.wrap ((X : Int) + 1 - 1) = (X : Int) := by rw [IntWalk.i64_in _ (by omega)]; omega
          go_wp2_with fail
          have NB : Hid (Blk (wr.setCell ⟨w.heap.size, X, none⟩ (.int .i64 ((C : Int) + 1))) w.heap.size (ints (manyR (l.take (k + 1)) 1 M)) 3) := by
            show Blk _ _ _ _
            rw [HTK.out, HST.out, ← ints_set]
            exact hB.out.set X _
          go_roundw
          case rel => exact ⟨k + 1, by omega, by go_num, NB, kk.setCell (.inl (Nat.le_refl _)) _⟩
          case measure => simp [intOf]; omega
        · have hd : decide (0 < x) = false := decide_eq_false h0
          have NB : Hid (Blk wr w.heap.size (ints (manyR (l.take (k + 1)) 1 M)) 3) := by
            show Blk _ _ _ _
            rw [HTK.out, manyR_skip (by omega)]; exact hB.out
          go_wp2_with fail
          go_roundw
          case rel => exact ⟨k + 1, by omega, by go_num, NB, kk⟩
          case measure => simp [intOf]; omega
      · obtain rfl : k = n := by omega
        go_wp2_with fail
        go_ret
        have h := hB.out
        rw [List.take_of_length_le (by have := HN.out; omega)] at h
        have h2 := blk_nums (k := .i64) (l := manyR l 1 M) h
        rw [manyR_len] at h2
        exact ⟨_, rfl, h2, (fun ad n c he => by cases he; exact Nat.le_refl _), kk⟩
  · have hM0 : maxOut l = 0 := by rw [maxOut, if_neg hE]
    have hMN : mostN l = 0 := by rw [mostN, hM0]; rfl
    rw [hMN]
    rw [hM0] at HG
    have hE0 : (maxErr l == 0) = false := by simpa using hE
    generalize maxErr l = E at *
    clear hv hnl hM0 hMN HV
    go_enter Try.func31, Try.ntmps31
    go_wp2_with fail
    refine HG.out.mono ?_
    rintro e w' ⟨rfl, hw⟩
    subst w'
    go_wp2_with fail
    go_ret
    exact ⟨_, rfl, RdI.nil, (fun ad n c he => by cases he), Keeps.refl _ _⟩

theorem eq_world {P : Program} {c : Code} {Q : Exit → Act → World → Prop} {a : Act} {w w' : World} (h : w = w') (hw : c.wp P Q a w') : c.wp P Q a w := h ▸ hw

/-- How LengthCounts ends. -/
def CountsEnd (w : World) (l : List Int) (e : Ending) (w' : World) : Prop :=
  ∃ (bm bt : Nat) (T : List Int), e = .returned (.func (.func 55) #[] #[.pointer (some ⟨bm, 0, none⟩), .pointer (some ⟨bt, 0, none⟩)]) ∧
    Blk w' bm #[.int .i64 (mostN l : Int)] 3 ∧ Blk w' bt (ints T) 78 ∧ (∀ i : Nat, 1 ≤ i → i ≤ mostN l → T[i]? = some ((l.count (i : Int) : Nat) : Int)) ∧ w.heap.size ≤ bm ∧ w.heap.size ≤ bt ∧ Keeps w w' []

set_option maxRecDepth 100000 in
set_option maxHeartbeats 4000000 in
theorem counts_any (v : Value) (l : List Int) (w : World) (hv : RdI .i64 w v l) (hn : l.length ≤ 1000000) :
    Calls Try.prog 32 #[v] w (CountsEnd w l) := by
  have hmf : ∀ (fn : Fn) (first cap : Array Value) (w : World), (Instr.makeFunc fn first cap).run Try.prog w = .ok (.func fn first cap) w := fun _ _ _ _ => rfl
  have HG := Lib.hid (maxLen_any v l w hv hn)
  have HV := Lib.hid hv
  obtain ⟨hM, hMe⟩ := mostN_le l
  rw [hMe] at HG
  obtain ⟨A0, n, cp0, rfl, hnl, -⟩ := hv.form
  by_cases hE : maxErr l = 0
  · obtain ⟨h60, hmx⟩ := maxErr_fine hE
    rw [hE] at HG
    have hxb : Hid (∀ x ∈ l, 0 ≤ x ∧ x ≤ 60) := (withinL_iff.1 h60).2
    have FIN : Hid (∀ i : Nat, 1 ≤ i → i ≤ mostN l → (manyR l 0 61)[i]? = some ((l.count (i : Int) : Nat) : Int)) := fun i h1 h2 => manyR_get (by omega)
    unfold CountsEnd
    generalize mostN l = M at *
    have HN := Lib.hid hnl
    have hn256 : n ≤ 256 := by have := (withinL_iff.1 h60).1; omega
    clear hv hnl h60 hmx hMe hE hn
    go_enter Try.func32, Try.ntmps32
    go_wp2_with fail
    refine HG.out.mono ?_
    rintro e w1 ⟨rfl, k1⟩
    go_wp2_with fail
    refine eq_world (w' := (w1.alloc (.cells #[.int .i64 (M : Int)] 3)).alloc (.cells (ints (manyR (l.take 0) 0 61)) 78)) (by rw [List.take_zero, manyR_nil]; rfl) ?_
    have bm := (Blk.new w1 #[.int .i64 (M : Int)] 3).alloc (.cells (ints (manyR (l.take 0) 0 61)) 78)
    have bt := Blk.new (w1.alloc (.cells #[.int .i64 (M : Int)] 3)) (ints (manyR (l.take 0) 0 61)) 78
    have kk : Keeps w ((w1.alloc (.cells #[.int .i64 (M : Int)] 3)).alloc (.cells (ints (manyR (l.take 0) 0 61)) 78)) [] := (k1.alloc _).alloc _
    have hs1 := k1.size
    rw [World.size_alloc] at bt
    have BM := Lib.hid bm
    have BT := Lib.hid bt
    clear bm bt k1 HG
    generalize ((w1.alloc (.cells #[.int .i64 (M : Int)] 3)).alloc (.cells (ints (manyR (l.take 0) 0 61)) 78)) = w2 at *
    go_loopw [17] (fun s17 wr => ∃ k : Nat, k ≤ n ∧ s17 = .int .i64 k ∧ Hid (Blk wr (w1.heap.size + 1) (ints (manyR (l.take k) 0 61)) 78) ∧ Hid (Blk wr w1.heap.size #[.int .i64 (M : Int)] 3) ∧ Keeps w wr []) (fun s17 _ => n - (intOf s17).toNat)
    case atStart => exact ⟨0, Nat.zero_le _, rfl, BT, BM, kk⟩
    case round =>
      obtain ⟨k, hk, rfl, hT, hMM, kk⟩ := hrel
      clear BT BM
      by_cases hlt : k < n
      · obtain ⟨x, hx⟩ : ∃ x, l[k]? = some x := ⟨_, List.getElem?_eq_getElem (by have := HN.out; omega)⟩
        have hxm := hxb.out x (List.mem_of_getElem? hx)
        obtain ⟨X, rfl⟩ : ∃ X : Nat, x = (X : Int) := ⟨x.toNat, by omega⟩
        obtain ⟨b, o, rfl, hb, hc⟩ := (HV.out.keeps kk).at hx
        have hcap := HV.out.cap
        have hkn : (k : Int) < (n : Int) := by omega
        have hk00 : (0 : Int) ≤ (k : Int) := Int.natCast_nonneg _
        have HTK := Lib.hid (take_next hx)
        have hX61 : X < 61 := by omega
        have c0 := hT.out.cell X
        rw [ints_get (manyR_get hX61)] at c0
        have f0 := hT.out.frozen X
        have hcl := count_le (l.take k) ((X + 0 : Nat) : Int)
        have hlk : (l.take k).length ≤ 256 := by have := HN.out; simp; omega
        have HST := Lib.hid (manyR_snoc (l := l.take k) (d := 0) hX61)
        obtain ⟨C, hC⟩ : ∃ C, C = (l.take k).count ((X + 0 : Nat) : Int) := ⟨_, rfl⟩
        rw [← hC] at c0 hcl HST
        have hXI : (X : Int) < 61 := by omega
        have hX0 : (0 : Int) ≤ (X : Int) := Int.natCast_nonneg _
        clear hC hxm hx
        go_wp2_with fail
        have NB : Hid (Blk (wr.setCell ⟨w1.heap.size + 1, X, none⟩ (.int .i64 ((C : Int) + 1))) (w1.heap.size + 1) (ints (manyR (l.take (k + 1)) 0 61)) 78) := by
          have h1 := HST.out
          rw [Nat.add_zero] at h1
          show Blk _ _ _ _
          rw [HTK.out, h1, ← ints_set]
          exact hT.out.set X _
        go_roundw
        case rel => exact ⟨k + 1, by omega, by go_num, NB, hMM.out.setOther (by dsimp only; omega) _, kk.setCell (.inl (by dsimp only; omega)) _⟩
        case measure => simp [intOf]; omega
      · obtain rfl : k = n := by omega
        go_wp2_with fail
        go_ret
        have h := hT.out
        rw [List.take_of_length_le (by have := HN.out; omega)] at h
        exact ⟨_, _, _, rfl, hMM.out, h, FIN.out, hs1, by omega, kk⟩
  · have hM0 : maxOut l = 0 := by rw [maxOut, if_neg hE]
    have hMN : mostN l = 0 := by rw [mostN, hM0]; rfl
    have hE0 : (maxErr l == 0) = false := by simpa using hE
    generalize maxErr l = E at *
    unfold CountsEnd
    rw [hMN] at HG ⊢
    clear hv hnl hM0 hMN HV hM hMe
    go_enter Try.func32, Try.ntmps32
    go_wp2_with fail
    refine HG.out.mono ?_
    rintro e w1 ⟨rfl, k1⟩
    go_wp2_with fail
    go_ret
    refine ⟨_, _, List.replicate 61 0, rfl, ?_, ?_, (fun i h1 h2 => by omega), k1.size, ?_, (k1.alloc _).alloc _⟩
    · exact (Blk.new w1 _ _).alloc _
    · have h := Blk.new (w1.alloc (.cells #[.int .i64 ((0 : Nat) : Int)] 3)) (ints (List.replicate 61 0)) 78
      rw [World.size_alloc] at h
      exact h
    · have := k1.size; omega

attribute [local go_sem] Oper.semAt_some

abbrev itemM (l : List Int) (k : Nat) : Int × Int := (((k + 1 : Nat) : Int), ((l.count ((k + 1 : Nat) : Int) : Nat) : Int))

set_option maxRecDepth 100000 in
set_option maxHeartbeats 2000000 in
theorem counts1_seq (bm bt M : Nat) (l T : List Int) (w : World) (hM : M ≤ 60) (hbm : Blk w bm #[.int .i64 (M : Int)] 3) (hbt : Blk w bt (ints T) 78) (hT : ∀ i : Nat, 1 ≤ i → i ≤ M → T[i]? = some ((l.count (i : Int) : Nat) : Int)) :
    SeqB Try.prog 55 #[.pointer (some ⟨bm, 0, none⟩), .pointer (some ⟨bt, 0, none⟩)] encP (fun k => k ≠ bm ∧ k ≠ bt)
      (fun ys => ys = upto (itemM l) M) (fun pre => pre <+: upto (itemM l) M) w := by
  intro lo C J Jx W hW hC hJ hJx hY h0
  have hbm' := hbm.keeps (Keeps.of_below hW) (by simp)
  have hbt' := hbt.keeps (Keeps.of_below hW) (by simp)
  have HBM := Lib.hid hbm'
  have HBT := Lib.hid hbt'
  have HY := Lib.hid hY
  have HC := Lib.hid hC
  have HT := Lib.hid hT
  clear hbm hbt hbm' hbt' hY hJ hJx hC hT
  refine callsIn_of_wp Try.func55 rfl trivial ?_ rfl
  simp only [Try.ntmps55, List.size_toArray, List.length_cons, List.length_nil, Nat.reduceAdd, Nat.reduceSub, Array.replicate_succ, Array.replicate_zero, List.push_toArray, List.append_toArray, List.nil_append, List.cons_append]
  gi_wp2
  refine wpIn_scope ?_
  refine wpIn_seq ?_
  apply wpIn_label
  gi_wp2
  gi_loopw [4] (fun i wr => ∃ k : Nat, k ≤ M ∧ i = .int .i64 ((k : Int) + 1) ∧ Hid (J (upto (itemM l) k) wr) ∧ Keeps W wr C)
    (fun i _ => M + 1 - (intOf i).toNat)
  case atStart => exact ⟨0, Nat.zero_le _, rfl, h0, Keeps.refl _ _⟩
  case round =>
    obtain ⟨k, hk, rfl, hJs, hkw⟩ := hrel
    have hbmC : bm ∉ C := fun hm => (HC.out bm hm).2.1 rfl
    have hbtC : bt ∉ C := fun hm => (HC.out bt hm).2.2 rfl
    obtain ⟨e3, -⟩ := (HBM.out.keeps hkw hbmC).one
    have hk00 : (0 : Int) ≤ (k : Int) := Int.natCast_nonneg _
    by_cases hlt : k < M
    · have e4 := (HBT.out.keeps hkw hbtC).cell (k + 1)
      rw [ints_get (HT.out (k + 1) (by omega) (by omega))] at e4
      have hyy := HY.out (upto (itemM l) k) (itemM l k) wr hJs.out (by rw [← upto_succ]; exact upto_prefix _ (by omega))
      have hi : itemM l k = ((k : Int) + 1, ((l.count ((k + 1 : Nat) : Int) : Nat) : Int)) := by simp [itemM]
      rw [hi] at hyy
      obtain ⟨Cn, hCn⟩ : ∃ Cn, Cn = l.count ((k + 1 : Nat) : Int) := ⟨_, rfl⟩
      rw [← hCn] at hyy e4 hi
      obtain ⟨fn, tmps, assign, body, hy, hR⟩ := hyy
      dsimp only [encP] at hy
      have hkM : (k : Int) + 1 ≤ (M : Int) := by omega
      have hk61 : (k : Int) + 1 < 61 := by omega
      have hk61n : k + 1 < 61 := by omega
      have HI := Lib.hid hi
      clear hi hCn
      gi_wp2
      refine (round_any hR).mono ?_
      rintro e W3 (⟨rfl, hJ3, hk3⟩ | ⟨rfl, hJx3, hk3⟩)
      · gi_wp2
        go_roundw
        case rel =>
          refine ⟨k + 1, by omega, by go_num, ?_, (hkw.trans hk3 (fun x hx _ => hx))⟩
          show J _ _
          rw [upto_succ, HI.out]
          exact hJ3
        case measure => simp [intOf]; omega
      · gi_wp2
        simp only [Exit.noGoto]
        go_end0
        refine ⟨⟨_, rfl⟩, .inr ⟨_, ?_, hJx3⟩⟩
        rw [← HI.out, ← upto_succ]
        exact upto_prefix _ (by omega)
    · obtain rfl : k = M := by omega
      gi_wp2
      simp only [Exit.noGoto]
      go_end0
      exact ⟨⟨_, rfl⟩, .inl ⟨_, rfl, hJs.out⟩⟩

end Go.Proofs.Ythjbngnihcmedaa
