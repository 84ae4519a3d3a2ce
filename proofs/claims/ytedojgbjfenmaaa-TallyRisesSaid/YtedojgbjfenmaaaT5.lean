/-
  Walks over package tally: MostFrequent.
-/
import Derived.Test.YtedojgbjfenmaaaT3
import Derived.Test.YtedojgbjfenmaaaT4
import Derived.Test.YtedojgbjfenmaaaGo
namespace Go.Proofs.Ytedojgbjfenmaaa
set_option linter.unusedVariables false
set_option linter.unusedSimpArgs false
set_option linter.unusedSectionVars false
open Go.RowKit

set_option maxHeartbeats 400000 in
theorem toldL (f : Nat) (u : List Int) (v : Value) (l : List Int) (w : World) (hv : RdI .i64 w v l) (hn : l.length ≤ 1000000) (hr : rightL l = true)
    (eg : ∀ args w, (callFunc f args).run Try.prog w = .ok (.enter f args) w)
    (hf : Calls Try.prog f #[.agg #[v]] w (OwnEnd w 3 .i64 u)) :
    Calls Try.prog 44 #[v, .func (.func f) #[] #[]] w fun e w' =>
      ∃ vu, e = .returned (.tuple #[vu, .int .i64 0]) ∧ w'.ownsRow w.heap.size 3 1 vu u.length (u.map (Value.int .i64)) ∧ Keeps w w' [] := by
  have HG := Lib.hid (check_any v l w hv hn)
  obtain ⟨A0, n, cp0, rfl, -⟩ := hv.form
  have HF2 := Lib.hid hf
  rw [hr] at HG
  clear hv hf hr
  go_enter Try.func44, Try.ntmps44
  go_wp2_with (go_at_call 20; refine HG.out.mono ?_; rintro e w' ⟨rfl, rfl⟩)
  refine HF2.out.mono ?_
  rintro e w1 ⟨vu, rfl, own, kk⟩
  obtain ⟨ad1, cp1, rfl⟩ := own_form own
  go_wp2_with fail
  go_ret2
  exact ⟨_, rfl, own, kk⟩

set_option maxHeartbeats 400000 in
theorem toldL_no (f : Nat) (v : Value) (l : List Int) (w : World) (hv : RdI .i64 w v l) (hn : l.length ≤ 1000000) (hr : rightL l = false) :
    Calls Try.prog 44 #[v, .func (.func f) #[] #[]] w fun e w' => e = .returned (.tuple #[.slice none 0 0, .int .i64 2]) ∧ Keeps w w' [] := by
  have HG := Lib.hid (check_any v l w hv hn)
  obtain ⟨A0, n, cp0, rfl, -⟩ := hv.form
  rw [hr] at HG
  clear hv hr
  go_enter Try.func44, Try.ntmps44
  go_wp2_with (go_at_call 20; refine HG.out.mono ?_; rintro e w' ⟨rfl, rfl⟩)
  go_ret2
  exact ⟨rfl, Keeps.refl _ _⟩

theorem most1_any (v : Value) (l : List Int) (w : World) (hv : RdI .i64 w v l) (hn : l.length ≤ 1000000) :
    Calls Try.prog 45 #[.agg #[v]] w (OwnEnd w 3 .i64 (usedL l)) := by
  have HG : Hid (∀ w', Keeps w w' [] → Calls Try.prog 43 #[v] w' (OwnEnd w' 3 .i64 (usedL l))) := fun w' k => used_any v l w' (hv.keeps k) hn
  obtain ⟨A0, n, cp0, rfl, -⟩ := hv.form
  clear hv hn
  generalize usedL l = U at *
  go_enter Try.func45, Try.ntmps45
  go_wp2_with fail
  refine (HG.out _ ((Keeps.refl w []).alloc _)).mono ?_
  rintro e w1 ⟨v1, rfl, own, kk⟩
  obtain ⟨ad1, cp1, rfl⟩ := own_form own
  go_wp2_with fail
  go_ret
  exact ⟨_, rfl, own_base own (by simp), ((Keeps.refl w []).alloc _).then kk⟩

set_option maxHeartbeats 1000000 in
/-- The comparison of two symbols' counts. -/
theorem most2_any (pb a b : Nat) (x y : Int) (v : Value) (l : List Int) (w : World) (hp : Blk w pb #[v] 26) (hv : RdI .i64 w v l) (hx : l[a]? = some x) (hy : l[b]? = some y) (hx0 : 0 ≤ x) (hx1 : x ≤ 2147483648) (hy0 : 0 ≤ y) (hy1 : y ≤ 2147483648) (hn : l.length ≤ 1000000) :
    Calls Try.prog 47 #[.int .i64 a, .int .i64 b, .pointer (some ⟨pb, 0, none⟩)] w fun e w' => e = .returned (.int .i64 (x - y)) ∧ ∃ m, w' = w.drewN m := by
  obtain ⟨A0, n, cp0, rfl, hnl, -⟩ := hv.form
  have hla := (List.getElem?_eq_some_iff.1 hx).1
  have hlb := (List.getElem?_eq_some_iff.1 hy).1
  obtain ⟨c0, -⟩ := hp.one
  obtain ⟨b1, o1, rfl, hb1, hc1⟩ := hv.at hx
  obtain ⟨b2, o2, he, hb2, hc2⟩ := hv.at hy
  cases he
  have hcap := hv.cap
  have ha1 : (a : Int) < (n : Int) := by omega
  have hb1' : (b : Int) < (n : Int) := by omega
  have ha0 : (0 : Int) ≤ (a : Int) := Int.natCast_nonneg _
  have hb0 : (0 : Int) ≤ (b : Int) := Int.natCast_nonneg _
  have hsub : IntKind.i64.wrap (x - y) = x - y := IntWalk.i64_in _ (by omega)
  clear hv hx hy hla hlb hnl hp
  go_enter Try.func47, Try.ntmps47
  go_wp2_with fail
  go_quiet (fail)
  go_wp2_with fail
  go_ret
  exact ⟨rfl, _, rfl⟩

set_option maxHeartbeats 2000000 in
theorem maxfunc_any (pb : Nat) (v : Value) (l : List Int) (vu : Value) (m : Int) (u : List Int) (w : World) (hp : Blk w pb #[v] 26) (hv : RdI .i64 w v l) (hu : RdI .i64 w vu (m :: u)) (hn : l.length ≤ 1000000) (hr : ∀ x ∈ l, 0 ≤ x ∧ x ≤ 2147483648)
    (hm : ∀ s ∈ m :: u, ∃ j : Nat, s = (j : Int) ∧ j < l.length) (hul : (m :: u).length ≤ 1000000) :
    Calls Try.prog 46 #[vu, .func (.func 47) #[] #[.pointer (some ⟨pb, 0, none⟩)]] w fun e w' => e = .returned (.int .i64 (maxU l m u)) ∧ ∃ n, w' = w.drewN n := by
  obtain ⟨A0, n, cp0, rfl, hnl, -⟩ := hu.form
  have hn1 : 1 ≤ n := by simp at hnl; omega
  have hn2 : n ≤ 1000000 := by omega
  obtain ⟨bu, ou, rfl, hbu, hcu⟩ := hu.at (i := 0) (x := m) rfl
  rw [Nat.add_zero] at hcu
  have hcap := hu.cap
  have HU := Lib.hid hu
  have HNL := Lib.hid hnl
  have HM := Lib.hid hm
  have HC : Hid (∀ (nd a b : Nat) (x y : Int), l[a]? = some x → l[b]? = some y → Calls Try.prog 47 #[.int .i64 a, .int .i64 b, .pointer (some ⟨pb, 0, none⟩)] (w.drewN nd) fun e w' => e = .returned (.int .i64 (x - y)) ∧ ∃ m, w' = (w.drewN nd).drewN m) := fun nd a b x y hx hy =>
    most2_any pb a b x y v l (w.drewN nd) (hp.drewN nd) (hv.drewN nd) hx hy (hr x (List.mem_of_getElem? hx)).1 (hr x (List.mem_of_getElem? hx)).2 (hr y (List.mem_of_getElem? hy)).1 (hr y (List.mem_of_getElem? hy)).2 hn
  have HR := Lib.hid hr
  have hd1 : decide ((n : Int) < 1) = false := by simp; omega
  clear hu hnl hm hp hv hn hr hul
  go_enter Try.func46, Try.ntmps46
  go_wp2_with fail
  go_loopw [5, 6] (fun s i wr => ∃ k nd : Nat, 1 ≤ k ∧ k ≤ n ∧ i = .int .i64 k ∧ s = .int .i64 (maxU l m (u.take (k - 1))) ∧ wr = w.drewN nd) (fun _ i _ => n - (intOf i).toNat)
  case atStart => exact ⟨1, 0, Nat.le_refl _, hn1, rfl, rfl, rfl⟩
  case round =>
    obtain ⟨k, nd, hk1, hk, rfl, rfl, rfl⟩ := hrel
    by_cases hlt : k < n
    · obtain ⟨s, hs⟩ : ∃ s, (m :: u)[k]? = some s := ⟨_, List.getElem?_eq_getElem (by have := HNL.out; omega)⟩
      obtain ⟨b, o, he, hb, hc⟩ := HU.out.at hs
      cases he
      obtain ⟨js, rfl, hjs⟩ := HM.out s (List.mem_of_getElem? hs)
      have hsu : u[k - 1]? = some (js : Int) := by
        rw [show k = k - 1 + 1 by omega, List.getElem?_cons_succ] at hs
        exact hs
      have hmem : maxU l m (u.take (k - 1)) ∈ m :: u := by
        rcases maxU_mem l m (u.take (k - 1)) with h | h
        · rw [h]; simp
        · exact List.mem_cons_of_mem _ (List.mem_of_mem_take h)
      obtain ⟨jm, hjm, hjml⟩ := HM.out _ hmem
      have hst := maxU_snoc l m (u.take (k - 1)) (js : Int)
      rw [← take_next hsu, show k - 1 + 1 = k + 1 - 1 by omega, hjm] at hst
      obtain ⟨x, hx⟩ : ∃ x, l[js]? = some x := ⟨_, List.getElem?_eq_getElem hjs⟩
      obtain ⟨y, hy⟩ : ∃ y, l[jm]? = some y := ⟨_, List.getElem?_eq_getElem hjml⟩
      have gx : getI l (js : Int) = x := by simp [getI, List.getD, hx]
      have gy : getI l (jm : Int) = y := by simp [getI, List.getD, hy]
      rw [gx, gy] at hst
      have HST := Lib.hid hst
      have HJM := Lib.hid hjm
      have G := Lib.hid (HC.out nd js jm x y hx hy)
      have hcw : (w.drewN nd).cell? ⟨bu, ou + k, none⟩ = some (.int .i64 (js : Int)) := hc
      clear hst hjm hs hsu hx hy gx gy hmem
      rw [HJM.out]
      have hk0 : (k : Int) < (n : Int) := by omega
      by_cases hxy : y < x
      · have h2 : 0 < x - y := by omega
        go_wp2_with (go_at_call 47; refine G.out.mono ?_; rintro e w' ⟨rfl, nq, rfl⟩)
        go_roundw
        case rel => exact ⟨k + 1, nd + nq, by omega, by omega, by go_num, by rw [HST.out, if_pos hxy], rfl⟩
        case measure => simp [intOf]; omega
      · have h2 : decide (0 < x - y) = false := by simp; omega
        go_wp2_with (go_at_call 47; refine G.out.mono ?_; rintro e w' ⟨rfl, nq, rfl⟩)
        go_roundw
        case rel => exact ⟨k + 1, nd + nq, by omega, by omega, by go_num, by rw [HST.out, if_neg (by omega)], rfl⟩
        case measure => simp [intOf]; omega
    · have : k = n := by omega
      subst this
      go_wp2_with fail
      go_ret
      have hl : u.length = k - 1 := by have := HNL.out; simp at this; omega
      exact ⟨ret_int (by rw [← hl, List.take_length]), _, rfl⟩

def MostEnd (w : World) (l : List Int) (e : Ending) (w' : World) : Prop := e = .returned (.tuple #[.int .i64 (mostS l), .int .i64 (mostE l)]) ∧ Keeps w w' []

set_option maxHeartbeats 1000000 in
theorem most_call (v : Value) (l : List Int) (w : World) (hv : RdI .i64 w v l) (hn : l.length ≤ 1000000) :
    Calls Try.prog 26 #[v] w (MostEnd w l) := by
  have hmf : ∀ (fn : Fn) (first cap : Array Value) (w : World), (Instr.makeFunc fn first cap).run Try.prog w = .ok (.func fn first cap) w := fun _ _ _ _ => rfl
  obtain ⟨A0, n, cp0, rfl, -⟩ := hv.form
  have hk := (Keeps.refl w []).alloc (.cells #[.slice A0 n cp0] 26)
  cases hr : rightL l with
  | false =>
    have HG := Lib.hid (toldL_no 45 _ l _ (hv.keeps hk) hn hr)
    have hfin : Hid (mostS l = 0 ∧ mostE l = 2) := ⟨by simp [mostS, hr], by simp [mostE, hr]⟩
    clear hv hr
    go_enter Try.func26, Try.ntmps26
    go_wp2_with fail
    refine wp_scope_fwd 0 (by rfl) ?_
    go_wp2_with fail
    refine HG.out.mono ?_
    rintro e w1 ⟨rfl, kk⟩
    go_wp2_with fail
    go_step3
    refine ⟨rfl, ?_⟩
    go_wp2_with fail
    simp only [Exit.noGoto]
    go_ret2
    obtain ⟨h1, h2⟩ := hfin.out
    unfold MostEnd
    rw [h1, h2]
    exact ⟨rfl, hk.then kk⟩
  | true =>
    have HG := Lib.hid (toldL 45 (usedL l) _ l _ (hv.keeps hk) hn hr (enters_of Try.func45 (by kernel_rfl) rfl) (most1_any _ l _ (hv.keeps hk) hn))
    cases hu : usedL l with
    | nil =>
      have hfin : Hid (mostS l = 0 ∧ mostE l = 22) := ⟨by simp [mostS, hr, hu], by simp [mostE, hr, hu]⟩
      rw [hu] at HG
      clear hv hr hu
      go_enter Try.func26, Try.ntmps26
      go_wp2_with fail
      refine wp_scope_fwd 0 (by rfl) ?_
      go_wp2_with fail
      refine HG.out.mono ?_
      rintro e w1 ⟨vu, rfl, own, kk⟩
      obtain ⟨ad1, cp1, rfl⟩ := own_form own
      simp only [List.length_nil] at own ⊢
      go_wp2_with fail
      go_step3
      refine ⟨rfl, ?_⟩
      go_wp2_with fail
      simp only [Exit.noGoto]
      go_ret2
      obtain ⟨h1, h2⟩ := hfin.out
      unfold MostEnd
      rw [h1, h2]
      exact ⟨rfl, hk.then kk⟩
    | cons m u =>
      have hfin : Hid (mostS l = maxU l m u ∧ mostE l = 0) := ⟨by simp [mostS, hr, hu], by simp [mostE, hr, hu]⟩
      have hm : ∀ s ∈ m :: u, ∃ j : Nat, s = (j : Int) ∧ j < l.length := fun s hs => by
        rw [← hu] at hs
        obtain ⟨j, h1, x, h2, -⟩ := usedL_mem hs
        exact ⟨j, h1, (List.getElem?_eq_some_iff.1 h2).1⟩
      have hul : (m :: u).length ≤ 1000000 := by have := usedL_len l; rw [hu] at this; omega
      rw [hu] at HG
      have HM := Lib.hid hm
      have HR := Lib.hid hr
      have HV := Lib.hid hv
      have hul0 : ((m :: u).length == 0) = false := by simp
      have hul1 : (((m :: u).length : Int) == 0) = false := by simp; omega
      clear hv hr hu hm
      generalize hL : (m :: u).length = L at *
      have HL := Lib.hid hL
      clear hL
      go_enter Try.func26, Try.ntmps26
      go_wp2_with fail
      refine wp_scope_fwd 0 (by rfl) ?_
      go_wp2_with fail
      refine HG.out.mono ?_
      rintro e w1 ⟨vu, rfl, own, kk⟩
      have bp := (Blk.new w #[.slice A0 n cp0] 26).keeps kk (by simp)
      obtain ⟨ad1, cp1, rfl⟩ := own_form own
      rw [← HL.out] at own
      have hu1 := own_reads own
      have hv1 := HV.out.keeps (hk.then kk)
      have GM := Lib.hid (maxfunc_any w.heap.size _ l _ m u w1 bp hv1 hu1 hn (rightL_iff.1 HR.out).2 HM.out (by rw [HL.out]; exact hul))
      rw [HL.out] at GM
      clear own hu1 hv1
      go_wp2_with fail
      refine GM.out.mono ?_
      rintro e w2 ⟨rfl, nq, rfl⟩
      go_wp2_with fail
      simp only [Exit.jump]
      go_ret2
      obtain ⟨h1, h2⟩ := hfin.out
      unfold MostEnd
      rw [h1, h2]
      exact ⟨rfl, (hk.then kk).drewN nq⟩

end Go.Proofs.Ytedojgbjfenmaaa
