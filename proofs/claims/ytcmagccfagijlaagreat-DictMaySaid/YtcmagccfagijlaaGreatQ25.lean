/-
  Walks over package dict: plain, table, Valid, whether valid or not. (Printed by mkEe.py.)
-/
import Derived.Test.YtcmagccfagijlaaGreatQ3
import Derived.Test.YtcmagccfagijlaaGreatQ5
import Derived.Test.YtcmagccfagijlaaGreatQ24
namespace Go.Proofs.YtcmagccfagijlaaGreat
set_option linter.unusedVariables false
set_option linter.unusedSimpArgs false
set_option linter.unusedSectionVars false
open Go.RowKit

/-- A table of a full dictionary is valid. -/
def tblB (g : Int) (l : List Int) (sy lg : Int) : Bool := decide (0 < g) && okN g l sy lg
/-- A repeat offset reaches behind what stands there. -/
def badR (n x : Int) : Bool := decide (x < 1) || decide (n < x)
/-- A raw dictionary is valid (contents are short here). -/
def rawB (T L1 L2 L3 : List Int) (g1 g2 g3 a b c : Int) (X : List Int) : Bool := decide (T.length = 0) && (decide (g1 = 0 ∧ L1 = []) && (decide (g2 = 0 ∧ L2 = []) && (decide (g3 = 0 ∧ L3 = []) && (decide (a = 1 ∧ b = 4 ∧ c = 8) && !markB X))))
/-- A full one. -/
def fullB (T L1 L2 L3 : List Int) (g1 g2 g3 a b c : Int) (X : List Int) : Bool := treeL T && (!decide (T.getD (T.length - 1) 0 = 0) && (tblB g2 L2 28 8 && (tblB g3 L3 44 9 && (tblB g1 L1 44 9 && (decide (8 ≤ (X.length : Int)) && !([a, b, c].any (badR X.length)))))))
def validB (id : Int) (T L1 L2 L3 : List Int) (g1 g2 g3 a b c : Int) (X : List Int) : Bool := if id = 0 then rawB T L1 L2 L3 g1 g2 g3 a b c X else fullB T L1 L2 L3 g1 g2 g3 a b c X

section
variable {P : Program} {md : Region.Mode} {os : List Oper} {Q : Exit → Act → World → Prop} {S : World → Prop}
/-- An operation that is not wanted is passed over. -/
theorem skipL {i : Nat} {oi : Oper} {fuel : Nat} {listed : Array Bool} {a : Act} {w : World} (hi : os[i]? = some oi)
    (hs : Region.noSelect os.toArray = true) (hf : Region.free md os.toArray listed i = true) (hr : (Region.ready md os.toArray listed).contains i = true)
    (hQ : ∀ c a w, Q (.panic c) (a.put oi.dst undef) w → Q (.panic c) a w) (hw : Region.wanted oi (yielded os.toArray a.tmps) = false) (hS : S w)
    (h : wpAnyH P md os.toArray Q S fuel (listed.setIfInBounds i true) (a.put oi.dst undef) w) : wpAnyH P md os.toArray Q S (fuel + 1) listed a w :=
  wpAnyH_take (by simpa using hi) hs hf hr hQ (Or.inr ⟨hw, rfl⟩) hS h
end

theorem len_nil (l : List Int) : decide (l.length = 0) = decide (l = []) := decide_eq_decide.2 List.length_eq_zero_iff

set_option maxRecDepth 100000 in
theorem none1_any (g : Int) (v : Value) (l : List Int) (w : World) (hv : RdI .i64 w v l) :
    Calls Tryz.prog 69 #[.agg #[.int .i64 g, v]] w fun e w' => e = .returned (.bool (decide (g = 0 ∧ l = []))) ∧ Keeps w w' [] := by
  obtain ⟨A0, n, c, rfl, hn, -⟩ := hv.form
  have e1 : decide (l = []) = ((n : Int) == 0) := by
    rw [← len_nil, ← hn, Bool.eq_iff_iff]; simp
  rw [Bool.decide_and, e1]
  clear hv hn e1
  obtain ⟨R0, f0⟩ : ∃ R, (g == 0) = R := ⟨_, rfl⟩
  obtain ⟨R1, f1⟩ : ∃ R, ((n : Int) == 0) = R := ⟨_, rfl⟩
  have f0' : decide (g = 0) = R0 := f0
  rw [f0', f1]
  clear f0'
  go_enter Tryz.func69, Tryz.ntmps69
  go_wp2_with fail
  all_goals
    clear f0 f1
    go_ret
    refine ⟨?_, (Keeps.refl w []).alloc _⟩
    simp_all

set_option maxRecDepth 100000 in
set_option maxHeartbeats 2000000 in
theorem table_any (g sy lg : Int) (v : Value) (l : List Int) (w : World) (hv : RdI .i64 w v l) (hn : l.length ≤ 1000000) (hb : ∀ x ∈ l, -9223372036854775808 ≤ x ∧ x ≤ 9223372036854775807) (hg0 : 0 ≤ lg) (hg9 : lg ≤ 9) :
    Calls Tryz.prog 38 #[.agg #[.int .i64 g, v], .int .i64 sy, .int .i64 lg] w fun e w' => e = .returned (.bool (tblB g l sy lg)) ∧ Keeps w w' [] := by
  have HC := Lib.hid (ncheck_any g sy lg v l (w.alloc (.cells #[.int .i64 g, v] 27)) (hv.keeps ((Keeps.refl w []).alloc _)) hn hb hg0 hg9)
  obtain ⟨A0, n, c, rfl, hn, -⟩ := hv.form
  rw [tblB]
  clear hv hn hb
  generalize okN g l sy lg = R1 at *
  obtain ⟨R0, f0⟩ : ∃ R, decide (0 < g) = R := ⟨_, rfl⟩
  rw [f0]
  go_enter Tryz.func38, Tryz.ntmps38
  cases R1
  · go_wp2_with (go_at_call 73; go_loud (refine HC.out.mono ?_; rintro e w1 ⟨rfl, k1⟩))
    all_goals
      clear f0
      go_ret
    all_goals first
      | exact ⟨by simp_all, ((Keeps.refl w []).alloc _).then k1⟩
      | exact ⟨by simp_all, (Keeps.refl w []).alloc _⟩
  · go_wp2_with (go_at_call 73; go_loud (refine HC.out.mono ?_; rintro e w1 ⟨rfl, k1⟩))
    all_goals
      clear f0
      go_ret
    all_goals first
      | exact ⟨by simp_all, ((Keeps.refl w []).alloc _).then k1⟩
      | exact ⟨by simp_all, (Keeps.refl w []).alloc _⟩

theorem valid1_any (n x : Int) (N : Nat) (w : World) (hb : Blk w N #[.int .i64 n] 3) :
    Calls Tryz.prog 40 #[.int .i64 x, .pointer (some ⟨N, 0, none⟩)] w fun e w' => e = .returned (.bool (badR n x)) ∧ w = w' := by
  obtain ⟨c1, -⟩ := hb.one
  rw [badR]
  obtain ⟨R0, f0⟩ : ∃ R, decide (x < 1) = R := ⟨_, rfl⟩
  obtain ⟨R1, f1⟩ : ∃ R, decide (n < x) = R := ⟨_, rfl⟩
  rw [f0, f1]
  go_enter Tryz.func40, Tryz.ntmps40
  go_wp2_with fail
  all_goals
    clear f0 f1
    go_ret
    refine ⟨?_, rfl⟩
    simp_all

set_option maxRecDepth 100000 in
set_option maxHeartbeats 2000000 in
theorem idxBad_any (nn : Int) (N : Nat) (v : Value) (l : List Int) (w : World) (hb : Blk w N #[.int .i64 nn] 3) (hv : RdI .i64 w v l) (hn : l.length ≤ 1000) :
    Calls Tryz.prog 74 #[v, .func (.func 40) #[] #[.pointer (some ⟨N, 0, none⟩)]] w fun e w' => (∃ r : Int, e = .returned (.int .i64 r) ∧ decide (0 ≤ r) = l.any (badR nn)) ∧ w = w' := by
  obtain ⟨A0, n, cp0, rfl, hnl, -⟩ := hv.form
  have HV := Lib.hid hv
  have HN := Lib.hid hnl
  have HB := Lib.hid (fun (x : Int) => valid1_any nn x N w hb)
  have hn' : n ≤ 1000 := by omega
  obtain ⟨R, hR⟩ : ∃ R, R = l.any (badR nn) := ⟨_, rfl⟩
  have HR := Lib.hid hR
  rw [← hR]
  clear hv hnl hb hn hR
  go_enter Tryz.func74, Tryz.ntmps74
  go_wp2_with fail
  go_loop [8] (fun i => ∃ k : Nat, k ≤ n ∧ i = .int .i64 k ∧ Hid (∀ x ∈ l.take k, badR nn x = false)) (fun i => n - (intOf i).toNat)
  case atStart => exact ⟨0, Nat.zero_le _, rfl, by show ∀ x ∈ _, _; simp⟩
  case round =>
    obtain ⟨k, hk, rfl, hno⟩ := hrel
    by_cases hlt : k < n
    · obtain ⟨x, hx⟩ : ∃ x, l[k]? = some x := ⟨_, List.getElem?_eq_getElem (by have := HN.out; omega)⟩
      obtain ⟨bb, o, rfl, hbb, hc⟩ := HV.out.at hx
      have hcap := HV.out.cap
      have hkn : (k : Int) < (n : Int) := by omega
      have hk0 : (0 : Int) ≤ (k : Int) := Int.natCast_nonneg _
      have HX := Lib.hid hx
      clear hx
      have HBx := HB.out x
      cases hbx : badR nn x
      · rw [hbx] at HBx
        replace HBx := Lib.hid HBx
        have NX : Hid (∀ y ∈ l.take (k + 1), badR nn y = false) := by
          show ∀ y ∈ _, _
          rw [take_next HX.out]
          intro y hy
          rcases List.mem_append.1 hy with hy | hy
          · exact hno.out y hy
          · rw [List.mem_singleton.1 hy]; exact hbx
        clear hbx
        go_wp2_with fail
        refine HBx.out.mono ?_
        rintro e w1 ⟨rfl, rfl⟩
        go_wp2_with fail
        go_round
        case rel => exact ⟨k + 1, by omega, by go_num, NX⟩
        case measure => simp [intOf]; omega
      · rw [hbx] at HBx
        replace HBx := Lib.hid HBx
        have FR : Hid (R = true) := by
          show _ = _
          rw [HR.out]
          exact List.any_eq_true.2 ⟨x, List.mem_of_getElem? HX.out, hbx⟩
        clear hbx
        go_wp2_with fail
        refine HBx.out.mono ?_
        rintro e w1 ⟨rfl, rfl⟩
        go_wp2_with fail
        go_ret
        exact ⟨⟨_, rfl, by rw [FR.out]; simp⟩, rfl⟩
    · have : k = n := by omega
      subst this
      have FR : Hid (R = false) := by
        show _ = _
        rw [HR.out]
        refine List.any_eq_false.2 (fun y hy => ?_)
        rw [hno.out y (by rw [List.take_of_length_le (by have := HN.out; omega)]; exact hy)]
        simp
      go_wp2_with fail
      go_ret
      exact ⟨⟨_, rfl, by rw [FR.out]; simp⟩, rfl⟩

theorem hasBad_any (nn : Int) (N : Nat) (v : Value) (l : List Int) (w : World) (hb : Blk w N #[.int .i64 nn] 3) (hv : RdI .i64 w v l) (hn : l.length ≤ 1000) :
    Calls Tryz.prog 39 #[v, .func (.func 40) #[] #[.pointer (some ⟨N, 0, none⟩)]] w fun e w' => e = .returned (.bool (l.any (badR nn))) ∧ w = w' := by
  have HI := Lib.hid (idxBad_any nn N v l w hb hv hn)
  generalize l.any (badR nn) = R at *
  clear hb hv hn
  go_enter Tryz.func39, Tryz.ntmps39
  go_wp2_with fail
  refine HI.out.mono ?_
  rintro e w1 ⟨⟨r, rfl, hr⟩, rfl⟩
  go_wp2_with fail
  go_ret
  exact ⟨rfl, rfl⟩

set_option maxRecDepth 100000 in
set_option maxHeartbeats 8000000 in
theorem plain_any (id g1 g2 g3 a b c : Int) (t n1 n2 n3 x : Value) (T L1 L2 L3 X : List Int) (w : World) (ht : RdI .i64 w t T) (h1 : RdI .i64 w n1 L1) (h2 : RdI .i64 w n2 L2) (h3 : RdI .i64 w n3 L3) (hx : RdI .u8 w x X) (hX : X.length ≤ 1000000) (hxb : ∀ y ∈ X, 0 ≤ y ∧ y ≤ 255) :
    Calls Tryz.prog 36 #[.agg (dictC id t g1 n1 g2 n2 g3 n3 a b c x)] w fun e w' => e = .returned (.bool (rawB T L1 L2 L3 g1 g2 g3 a b c X)) ∧ Keeps w w' [] := by
  have HM := Lib.hid (fun w1 (k : Keeps w w1 []) => marked_any x X w1 (hx.keeps k) hxb)
  have HT1 := Lib.hid (fun w1 (k : Keeps w w1 []) => none1_any g1 n1 L1 w1 (h1.keeps k))
  have HT2 := Lib.hid (fun w1 (k : Keeps w w1 []) => none1_any g2 n2 L2 w1 (h2.keeps k))
  have HT3 := Lib.hid (fun w1 (k : Keeps w w1 []) => none1_any g3 n3 L3 w1 (h3.keeps k))
  have h3q := fun w1 => eq_three a b c 1 4 8 w1
  have e3 : (a == 1 && (b == 4 && c == 8)) = decide (a = 1 ∧ b = 4 ∧ c = 8) := by
    simp only [Bool.decide_and]
    rfl
  simp only [e3] at h3q
  clear e3
  obtain ⟨pa, pm, pc, rfl, htn, -⟩ := ht.form
  obtain ⟨p1a, p1m, p1c, rfl, h1n, -⟩ := h1.form
  obtain ⟨p2a, p2m, p2c, rfl, h2n, -⟩ := h2.form
  obtain ⟨p3a, p3m, p3c, rfl, h3n, -⟩ := h3.form
  obtain ⟨pxa, pxm, pxc, rfl, hxn, -⟩ := hx.form
  have e0 : ((pm : Int) == 0) = decide (T.length = 0) := by rw [← htn, Bool.eq_iff_iff]; simp
  have hlen : (pxm : Int) ≤ 134217728 := by omega
  rw [rawB]
  clear ht h1 h2 h3 hx htn h1n h2n h3n hxn hX hxb
  generalize decide (T.length = 0) = R0 at *
  generalize decide (g1 = 0 ∧ L1 = []) = R1 at *
  generalize decide (g2 = 0 ∧ L2 = []) = R2 at *
  generalize decide (g3 = 0 ∧ L3 = []) = R3 at *
  generalize decide (a = 1 ∧ b = 4 ∧ c = 8) = R4 at *
  generalize markB X = R5 at *
  go_enter Tryz.func36, Tryz.ntmps36
  go_wp2_with fail
  have z0 := (Blk.new w (dictC id (.slice pa pm pc) g1 (.slice p1a p1m p1c) g2 (.slice p2a p2m p2c) g3 (.slice p3a p3m p3c) a b c (.slice pxa pxm pxc)) 32).alloc (.cells #[.slice pa pm pc, .int .i64 g1, .slice p1a p1m p1c, .int .i64 g2, .slice p2a p2m p2c, .int .i64 g3, .slice p3a p3m p3c, .int .i64 a, .int .i64 b, .int .i64 c] 30)
  have zc := Blk.new (w.alloc (.cells (dictC id (.slice pa pm pc) g1 (.slice p1a p1m p1c) g2 (.slice p2a p2m p2c) g3 (.slice p3a p3m p3c) a b c (.slice pxa pxm pxc)) 32)) #[.slice pa pm pc, .int .i64 g1, .slice p1a p1m p1c, .int .i64 g2, .slice p2a p2m p2c, .int .i64 g3, .slice p3a p3m p3c, .int .i64 a, .int .i64 b, .int .i64 c] 30
  have zk : Keeps w ((w.alloc (.cells (dictC id (.slice pa pm pc) g1 (.slice p1a p1m p1c) g2 (.slice p2a p2m p2c) g3 (.slice p3a p3m p3c) a b c (.slice pxa pxm pxc)) 32)).alloc (.cells #[.slice pa pm pc, .int .i64 g1, .slice p1a p1m p1c, .int .i64 g2, .slice p2a p2m p2c, .int .i64 g3, .slice p3a p3m p3c, .int .i64 a, .int .i64 b, .int .i64 c] 30)) [] := ((Keeps.refl w []).alloc _).alloc _
  simp only [World.size_alloc] at zc
  generalize ((w.alloc (.cells (dictC id (.slice pa pm pc) g1 (.slice p1a p1m p1c) g2 (.slice p2a p2m p2c) g3 (.slice p3a p3m p3c) a b c (.slice pxa pxm pxc)) 32)).alloc (.cells #[.slice pa pm pc, .int .i64 g1, .slice p1a p1m p1c, .int .i64 g2, .slice p2a p2m p2c, .int .i64 g3, .slice p3a p3m p3c, .int .i64 a, .int .i64 b, .int .i64 c] 30)) = w0 at *
  refine wp_region_held_drew (S := (fun w' => Blk w' (w.heap.size + 1) #[.slice pa pm pc, .int .i64 g1, .slice p1a p1m p1c, .int .i64 g2, .slice p2a p2m p2c, .int .i64 g3, .slice p3a p3m p3c, .int .i64 a, .int .i64 b, .int .i64 c] 30 ∧ Blk w' w.heap.size (dictC id (.slice pa pm pc) g1 (.slice p1a p1m p1c) g2 (.slice p2a p2m p2c) g3 (.slice p3a p3m p3c) a b c (.slice pxa pxm pxc)) 32 ∧ Keeps w w' [])) (by kernel_rfl) ⟨zc.drew, z0.drew, zk.drew⟩ (fun hHeld => ?_)
  cases R0
  · skip
    refine takeL (i := 0) (v := ?_) rfl (by kernel_rfl) (by kernel_rfl) (by kernel_rfl) (fun _ _ _ h => h) (by rfl) ?_ (by assumption) ?_
    rotate_left
    · (intro w9 hSw; have q0 := ctx_cell0 hSw.1; obtain ⟨q1, q2, q3, q4, q5, q6, q7, q8, q9⟩ := ctx_cells hSw.1; have q11 := dict_cell11 hSw.2.1; clear hSw; go_simp; (try with_reducible rfl))
    try simp only [Act.put, List.setIfInBounds_toArray, List.set_cons_zero, List.set_cons_succ]
    refine takeL (i := 1) (v := ?_) rfl (by kernel_rfl) (by kernel_rfl) (by kernel_rfl) (fun _ _ _ h => h) (by rfl) ?_ (by assumption) ?_
    rotate_left
    · (intro w9 hSw; have q0 := ctx_cell0 hSw.1; obtain ⟨q1, q2, q3, q4, q5, q6, q7, q8, q9⟩ := ctx_cells hSw.1; have q11 := dict_cell11 hSw.2.1; clear hSw; go_simp; (try with_reducible rfl))
    try simp only [Act.put, List.setIfInBounds_toArray, List.set_cons_zero, List.set_cons_succ]
    refine takeL (i := 2) (v := ?_) rfl (by kernel_rfl) (by kernel_rfl) (by kernel_rfl) (fun _ _ _ h => h) (by rfl) ?_ (by assumption) ?_
    rotate_left
    · (intro w9 hSw; have q0 := ctx_cell0 hSw.1; obtain ⟨q1, q2, q3, q4, q5, q6, q7, q8, q9⟩ := ctx_cells hSw.1; have q11 := dict_cell11 hSw.2.1; clear hSw; go_simp; (try with_reducible rfl))
    try simp only [Act.put, List.setIfInBounds_toArray, List.set_cons_zero, List.set_cons_succ]
    refine takeL (i := 3) (v := ?_) rfl (by kernel_rfl) (by kernel_rfl) (by kernel_rfl) (fun _ _ _ h => h) (by rfl) ?_ (by assumption) ?_
    rotate_left
    · (intro w9 hSw; have q0 := ctx_cell0 hSw.1; obtain ⟨q1, q2, q3, q4, q5, q6, q7, q8, q9⟩ := ctx_cells hSw.1; have q11 := dict_cell11 hSw.2.1; clear hSw; go_simp; (try with_reducible rfl))
    try simp only [Act.put, List.setIfInBounds_toArray, List.set_cons_zero, List.set_cons_succ]
    refine takeL (i := 4) (v := ?_) rfl (by kernel_rfl) (by kernel_rfl) (by kernel_rfl) (fun _ _ _ h => h) (by rfl) ?_ (by assumption) ?_
    rotate_left
    · (intro w9 hSw; have q0 := ctx_cell0 hSw.1; obtain ⟨q1, q2, q3, q4, q5, q6, q7, q8, q9⟩ := ctx_cells hSw.1; have q11 := dict_cell11 hSw.2.1; clear hSw; go_simp; (try with_reducible rfl))
    try simp only [Act.put, List.setIfInBounds_toArray, List.set_cons_zero, List.set_cons_succ]
    refine skipL (i := 5) rfl (by kernel_rfl) (by kernel_rfl) (by kernel_rfl) (fun _ _ _ h => h) (by rfl) (by assumption) ?_
    try simp only [Act.put, List.setIfInBounds_toArray, List.set_cons_zero, List.set_cons_succ]
    refine skipL (i := 6) rfl (by kernel_rfl) (by kernel_rfl) (by kernel_rfl) (fun _ _ _ h => h) (by rfl) (by assumption) ?_
    try simp only [Act.put, List.setIfInBounds_toArray, List.set_cons_zero, List.set_cons_succ]
    refine skipL (i := 7) rfl (by kernel_rfl) (by kernel_rfl) (by kernel_rfl) (fun _ _ _ h => h) (by rfl) (by assumption) ?_
    try simp only [Act.put, List.setIfInBounds_toArray, List.set_cons_zero, List.set_cons_succ]
    refine callL (i := 8) rfl (by kernel_rfl) (fun Kont hK => ?_)
    go_simp
    refine hK.out _ _ ?_ (fun hHeld => ?_)
    · (exact hHeld)
    clear hK Kont
    refine takeL (i := 9) (v := ?_) rfl (by kernel_rfl) (by kernel_rfl) (by kernel_rfl) (fun _ _ _ h => h) (by rfl) ?_ (by assumption) ?_
    rotate_left
    · (intro w9 hSw; have q0 := ctx_cell0 hSw.1; obtain ⟨q1, q2, q3, q4, q5, q6, q7, q8, q9⟩ := ctx_cells hSw.1; have q11 := dict_cell11 hSw.2.1; clear hSw; go_simp; (try with_reducible rfl))
    try simp only [Act.put, List.setIfInBounds_toArray, List.set_cons_zero, List.set_cons_succ]
    refine takeL (i := 10) (v := ?_) rfl (by kernel_rfl) (by kernel_rfl) (by kernel_rfl) (fun _ _ _ h => h) (by rfl) ?_ (by assumption) ?_
    rotate_left
    · (intro w9 hSw; have q0 := ctx_cell0 hSw.1; obtain ⟨q1, q2, q3, q4, q5, q6, q7, q8, q9⟩ := ctx_cells hSw.1; have q11 := dict_cell11 hSw.2.1; clear hSw; go_simp; (try with_reducible rfl))
    try simp only [Act.put, List.setIfInBounds_toArray, List.set_cons_zero, List.set_cons_succ]
    refine skipL (i := 11) rfl (by kernel_rfl) (by kernel_rfl) (by kernel_rfl) (fun _ _ _ h => h) (by rfl) (by assumption) ?_
    try simp only [Act.put, List.setIfInBounds_toArray, List.set_cons_zero, List.set_cons_succ]
    refine skipL (i := 12) rfl (by kernel_rfl) (by kernel_rfl) (by kernel_rfl) (fun _ _ _ h => h) (by rfl) (by assumption) ?_
    try simp only [Act.put, List.setIfInBounds_toArray, List.set_cons_zero, List.set_cons_succ]
    refine skipL (i := 13) rfl (by kernel_rfl) (by kernel_rfl) (by kernel_rfl) (fun _ _ _ h => h) (by rfl) (by assumption) ?_
    try simp only [Act.put, List.setIfInBounds_toArray, List.set_cons_zero, List.set_cons_succ]
    refine callL (i := 14) rfl (by kernel_rfl) (fun Kont hK => ?_)
    go_simp
    refine hK.out _ _ ?_ (fun hHeld => ?_)
    · (exact hHeld)
    clear hK Kont
    refine takeL (i := 15) (v := ?_) rfl (by kernel_rfl) (by kernel_rfl) (by kernel_rfl) (fun _ _ _ h => h) (by rfl) ?_ (by assumption) ?_
    rotate_left
    · (intro w9 hSw; have q0 := ctx_cell0 hSw.1; obtain ⟨q1, q2, q3, q4, q5, q6, q7, q8, q9⟩ := ctx_cells hSw.1; have q11 := dict_cell11 hSw.2.1; clear hSw; go_simp; (try with_reducible rfl))
    try simp only [Act.put, List.setIfInBounds_toArray, List.set_cons_zero, List.set_cons_succ]
    refine takeL (i := 16) (v := ?_) rfl (by kernel_rfl) (by kernel_rfl) (by kernel_rfl) (fun _ _ _ h => h) (by rfl) ?_ (by assumption) ?_
    rotate_left
    · (intro w9 hSw; have q0 := ctx_cell0 hSw.1; obtain ⟨q1, q2, q3, q4, q5, q6, q7, q8, q9⟩ := ctx_cells hSw.1; have q11 := dict_cell11 hSw.2.1; clear hSw; go_simp; (try with_reducible rfl))
    try simp only [Act.put, List.setIfInBounds_toArray, List.set_cons_zero, List.set_cons_succ]
    refine skipL (i := 17) rfl (by kernel_rfl) (by kernel_rfl) (by kernel_rfl) (fun _ _ _ h => h) (by rfl) (by assumption) ?_
    try simp only [Act.put, List.setIfInBounds_toArray, List.set_cons_zero, List.set_cons_succ]
    refine skipL (i := 18) rfl (by kernel_rfl) (by kernel_rfl) (by kernel_rfl) (fun _ _ _ h => h) (by rfl) (by assumption) ?_
    try simp only [Act.put, List.setIfInBounds_toArray, List.set_cons_zero, List.set_cons_succ]
    refine skipL (i := 19) rfl (by kernel_rfl) (by kernel_rfl) (by kernel_rfl) (fun _ _ _ h => h) (by rfl) (by assumption) ?_
    try simp only [Act.put, List.setIfInBounds_toArray, List.set_cons_zero, List.set_cons_succ]
    refine callL (i := 20) rfl (by kernel_rfl) (fun Kont hK => ?_)
    go_simp
    refine hK.out _ _ ?_ (fun hHeld => ?_)
    · (exact hHeld)
    clear hK Kont
    refine takeL (i := 21) (v := ?_) rfl (by kernel_rfl) (by kernel_rfl) (by kernel_rfl) (fun _ _ _ h => h) (by rfl) ?_ (by assumption) ?_
    rotate_left
    · (intro w9 hSw; have q0 := ctx_cell0 hSw.1; obtain ⟨q1, q2, q3, q4, q5, q6, q7, q8, q9⟩ := ctx_cells hSw.1; have q11 := dict_cell11 hSw.2.1; clear hSw; go_simp; (try with_reducible rfl))
    try simp only [Act.put, List.setIfInBounds_toArray, List.set_cons_zero, List.set_cons_succ]
    refine takeL (i := 22) (v := ?_) rfl (by kernel_rfl) (by kernel_rfl) (by kernel_rfl) (fun _ _ _ h => h) (by rfl) ?_ (by assumption) ?_
    rotate_left
    · (intro w9 hSw; have q0 := ctx_cell0 hSw.1; obtain ⟨q1, q2, q3, q4, q5, q6, q7, q8, q9⟩ := ctx_cells hSw.1; have q11 := dict_cell11 hSw.2.1; clear hSw; go_simp; (try with_reducible rfl))
    try simp only [Act.put, List.setIfInBounds_toArray, List.set_cons_zero, List.set_cons_succ]
    refine skipL (i := 23) rfl (by kernel_rfl) (by kernel_rfl) (by kernel_rfl) (fun _ _ _ h => h) (by rfl) (by assumption) ?_
    try simp only [Act.put, List.setIfInBounds_toArray, List.set_cons_zero, List.set_cons_succ]
    refine skipL (i := 24) rfl (by kernel_rfl) (by kernel_rfl) (by kernel_rfl) (fun _ _ _ h => h) (by rfl) (by assumption) ?_
    try simp only [Act.put, List.setIfInBounds_toArray, List.set_cons_zero, List.set_cons_succ]
    refine callL (i := 25) rfl (by kernel_rfl) (fun Kont hK => ?_)
    go_simp
    refine hK.out _ _ ?_ (fun hHeld => ?_)
    · (exact hHeld)
    clear hK Kont
    refine skipL (i := 26) rfl (by kernel_rfl) (by kernel_rfl) (by kernel_rfl) (fun _ _ _ h => h) (by rfl) (by assumption) ?_
    try simp only [Act.put, List.setIfInBounds_toArray, List.set_cons_zero, List.set_cons_succ]
    refine takeL (i := 27) (v := ?_) rfl (by kernel_rfl) (by kernel_rfl) (by kernel_rfl) (fun _ _ _ h => h) (by rfl) ?_ (by assumption) ?_
    rotate_left
    · (intro w9 hSw; have q0 := ctx_cell0 hSw.1; obtain ⟨q1, q2, q3, q4, q5, q6, q7, q8, q9⟩ := ctx_cells hSw.1; have q11 := dict_cell11 hSw.2.1; clear hSw; go_simp; (try with_reducible rfl))
    try simp only [Act.put, List.setIfInBounds_toArray, List.set_cons_zero, List.set_cons_succ]
    refine takeL (i := 28) (v := ?_) rfl (by kernel_rfl) (by kernel_rfl) (by kernel_rfl) (fun _ _ _ h => h) (by rfl) ?_ (by assumption) ?_
    rotate_left
    · (intro w9 hSw; have q0 := ctx_cell0 hSw.1; obtain ⟨q1, q2, q3, q4, q5, q6, q7, q8, q9⟩ := ctx_cells hSw.1; have q11 := dict_cell11 hSw.2.1; clear hSw; go_simp; (try with_reducible rfl))
    try simp only [Act.put, List.setIfInBounds_toArray, List.set_cons_zero, List.set_cons_succ]
    refine skipL (i := 29) rfl (by kernel_rfl) (by kernel_rfl) (by kernel_rfl) (fun _ _ _ h => h) (by rfl) (by assumption) ?_
    try simp only [Act.put, List.setIfInBounds_toArray, List.set_cons_zero, List.set_cons_succ]
    refine skipL (i := 30) rfl (by kernel_rfl) (by kernel_rfl) (by kernel_rfl) (fun _ _ _ h => h) (by rfl) (by assumption) ?_
    try simp only [Act.put, List.setIfInBounds_toArray, List.set_cons_zero, List.set_cons_succ]
    refine callL (i := 31) rfl (by kernel_rfl) (fun Kont hK => ?_)
    go_simp
    refine hK.out _ _ ?_ (fun hHeld => ?_)
    · (exact hHeld)
    clear hK Kont
    refine skipL (i := 32) rfl (by kernel_rfl) (by kernel_rfl) (by kernel_rfl) (fun _ _ _ h => h) (by rfl) (by assumption) ?_
    try simp only [Act.put, List.setIfInBounds_toArray, List.set_cons_zero, List.set_cons_succ]
    refine takeL (i := 33) (v := ?_) rfl (by kernel_rfl) (by kernel_rfl) (by kernel_rfl) (fun _ _ _ h => h) (by rfl) ?_ (by assumption) ?_
    rotate_left
    · (intro w9 hSw; have q0 := ctx_cell0 hSw.1; obtain ⟨q1, q2, q3, q4, q5, q6, q7, q8, q9⟩ := ctx_cells hSw.1; have q11 := dict_cell11 hSw.2.1; clear hSw; go_simp; (try with_reducible rfl))
    try simp only [Act.put, List.setIfInBounds_toArray, List.set_cons_zero, List.set_cons_succ]
    refine takeL (i := 34) (v := ?_) rfl (by kernel_rfl) (by kernel_rfl) (by kernel_rfl) (fun _ _ _ h => h) (by rfl) ?_ (by assumption) ?_
    rotate_left
    · (intro w9 hSw; have q0 := ctx_cell0 hSw.1; obtain ⟨q1, q2, q3, q4, q5, q6, q7, q8, q9⟩ := ctx_cells hSw.1; have q11 := dict_cell11 hSw.2.1; clear hSw; go_simp; (try with_reducible rfl))
    try simp only [Act.put, List.setIfInBounds_toArray, List.set_cons_zero, List.set_cons_succ]
    refine skipL (i := 35) rfl (by kernel_rfl) (by kernel_rfl) (by kernel_rfl) (fun _ _ _ h => h) (by rfl) (by assumption) ?_
    try simp only [Act.put, List.setIfInBounds_toArray, List.set_cons_zero, List.set_cons_succ]
    refine skipL (i := 36) rfl (by kernel_rfl) (by kernel_rfl) (by kernel_rfl) (fun _ _ _ h => h) (by rfl) (by assumption) ?_
    try simp only [Act.put, List.setIfInBounds_toArray, List.set_cons_zero, List.set_cons_succ]
    refine skipL (i := 37) rfl (by kernel_rfl) (by kernel_rfl) (by kernel_rfl) (fun _ _ _ h => h) (by rfl) (by assumption) ?_
    try simp only [Act.put, List.setIfInBounds_toArray, List.set_cons_zero, List.set_cons_succ]
    refine skipL (i := 38) rfl (by kernel_rfl) (by kernel_rfl) (by kernel_rfl) (fun _ _ _ h => h) (by rfl) (by assumption) ?_
    try simp only [Act.put, List.setIfInBounds_toArray, List.set_cons_zero, List.set_cons_succ]
    refine takeL (i := 39) (v := ?_) rfl (by kernel_rfl) (by kernel_rfl) (by kernel_rfl) (fun _ _ _ h => h) (by rfl) ?_ (by assumption) ?_
    rotate_left
    · (intro w9 hSw; have q0 := ctx_cell0 hSw.1; obtain ⟨q1, q2, q3, q4, q5, q6, q7, q8, q9⟩ := ctx_cells hSw.1; have q11 := dict_cell11 hSw.2.1; clear hSw; go_simp; (try with_reducible rfl))
    try simp only [Act.put, List.setIfInBounds_toArray, List.set_cons_zero, List.set_cons_succ]
    refine takeL (i := 40) (v := ?_) rfl (by kernel_rfl) (by kernel_rfl) (by kernel_rfl) (fun _ _ _ h => h) (by rfl) ?_ (by assumption) ?_
    rotate_left
    · (intro w9 hSw; have q0 := ctx_cell0 hSw.1; obtain ⟨q1, q2, q3, q4, q5, q6, q7, q8, q9⟩ := ctx_cells hSw.1; have q11 := dict_cell11 hSw.2.1; clear hSw; go_simp; (try with_reducible rfl))
    try simp only [Act.put, List.setIfInBounds_toArray, List.set_cons_zero, List.set_cons_succ]
    refine wpAnyH_done (by kernel_rfl) ?_ _
    go_wp2_with fail
    go_ret
    exact ⟨by simp, hHeld.2.2⟩
  cases R1
  · skip
    refine takeL (i := 0) (v := ?_) rfl (by kernel_rfl) (by kernel_rfl) (by kernel_rfl) (fun _ _ _ h => h) (by rfl) ?_ (by assumption) ?_
    rotate_left
    · (intro w9 hSw; have q0 := ctx_cell0 hSw.1; obtain ⟨q1, q2, q3, q4, q5, q6, q7, q8, q9⟩ := ctx_cells hSw.1; have q11 := dict_cell11 hSw.2.1; clear hSw; go_simp; (try with_reducible rfl))
    try simp only [Act.put, List.setIfInBounds_toArray, List.set_cons_zero, List.set_cons_succ]
    refine takeL (i := 1) (v := ?_) rfl (by kernel_rfl) (by kernel_rfl) (by kernel_rfl) (fun _ _ _ h => h) (by rfl) ?_ (by assumption) ?_
    rotate_left
    · (intro w9 hSw; have q0 := ctx_cell0 hSw.1; obtain ⟨q1, q2, q3, q4, q5, q6, q7, q8, q9⟩ := ctx_cells hSw.1; have q11 := dict_cell11 hSw.2.1; clear hSw; go_simp; (try with_reducible rfl))
    try simp only [Act.put, List.setIfInBounds_toArray, List.set_cons_zero, List.set_cons_succ]
    refine takeL (i := 2) (v := ?_) rfl (by kernel_rfl) (by kernel_rfl) (by kernel_rfl) (fun _ _ _ h => h) (by rfl) ?_ (by assumption) ?_
    rotate_left
    · (intro w9 hSw; have q0 := ctx_cell0 hSw.1; obtain ⟨q1, q2, q3, q4, q5, q6, q7, q8, q9⟩ := ctx_cells hSw.1; have q11 := dict_cell11 hSw.2.1; clear hSw; go_simp; (try with_reducible rfl))
    try simp only [Act.put, List.setIfInBounds_toArray, List.set_cons_zero, List.set_cons_succ]
    refine takeL (i := 3) (v := ?_) rfl (by kernel_rfl) (by kernel_rfl) (by kernel_rfl) (fun _ _ _ h => h) (by rfl) ?_ (by assumption) ?_
    rotate_left
    · (intro w9 hSw; have q0 := ctx_cell0 hSw.1; obtain ⟨q1, q2, q3, q4, q5, q6, q7, q8, q9⟩ := ctx_cells hSw.1; have q11 := dict_cell11 hSw.2.1; clear hSw; go_simp; (try with_reducible rfl))
    try simp only [Act.put, List.setIfInBounds_toArray, List.set_cons_zero, List.set_cons_succ]
    refine takeL (i := 4) (v := ?_) rfl (by kernel_rfl) (by kernel_rfl) (by kernel_rfl) (fun _ _ _ h => h) (by rfl) ?_ (by assumption) ?_
    rotate_left
    · (intro w9 hSw; have q0 := ctx_cell0 hSw.1; obtain ⟨q1, q2, q3, q4, q5, q6, q7, q8, q9⟩ := ctx_cells hSw.1; have q11 := dict_cell11 hSw.2.1; clear hSw; go_simp; (try with_reducible rfl))
    try simp only [Act.put, List.setIfInBounds_toArray, List.set_cons_zero, List.set_cons_succ]
    refine takeL (i := 5) (v := ?_) rfl (by kernel_rfl) (by kernel_rfl) (by kernel_rfl) (fun _ _ _ h => h) (by rfl) ?_ (by assumption) ?_
    rotate_left
    · (intro w9 hSw; have q0 := ctx_cell0 hSw.1; obtain ⟨q1, q2, q3, q4, q5, q6, q7, q8, q9⟩ := ctx_cells hSw.1; have q11 := dict_cell11 hSw.2.1; clear hSw; go_simp; (try with_reducible rfl))
    try simp only [Act.put, List.setIfInBounds_toArray, List.set_cons_zero, List.set_cons_succ]
    refine takeL (i := 6) (v := ?_) rfl (by kernel_rfl) (by kernel_rfl) (by kernel_rfl) (fun _ _ _ h => h) (by rfl) ?_ (by assumption) ?_
    rotate_left
    · (intro w9 hSw; have q0 := ctx_cell0 hSw.1; obtain ⟨q1, q2, q3, q4, q5, q6, q7, q8, q9⟩ := ctx_cells hSw.1; have q11 := dict_cell11 hSw.2.1; clear hSw; go_simp; (try with_reducible rfl))
    try simp only [Act.put, List.setIfInBounds_toArray, List.set_cons_zero, List.set_cons_succ]
    refine takeL (i := 7) (v := ?_) rfl (by kernel_rfl) (by kernel_rfl) (by kernel_rfl) (fun _ _ _ h => h) (by rfl) ?_ (by assumption) ?_
    rotate_left
    · (intro w9 hSw; have q0 := ctx_cell0 hSw.1; obtain ⟨q1, q2, q3, q4, q5, q6, q7, q8, q9⟩ := ctx_cells hSw.1; have q11 := dict_cell11 hSw.2.1; clear hSw; go_simp; (try with_reducible rfl))
    try simp only [Act.put, List.setIfInBounds_toArray, List.set_cons_zero, List.set_cons_succ]
    refine callL (i := 8) rfl (by kernel_rfl) (fun Kont hK => ?_)
    go_simp
    refine (HT1.out _ hHeld.2.2).mono ?_; rintro e w1 ⟨rfl, kk⟩
    go_wp2_with fail
    refine hK.out _ _ ?_ (fun hHeld => ?_)
    · (exact ⟨hHeld.1.keeps kk (by simp), hHeld.2.1.keeps kk (by simp), hHeld.2.2.then kk⟩)
    clear hK Kont
    refine takeL (i := 9) (v := ?_) rfl (by kernel_rfl) (by kernel_rfl) (by kernel_rfl) (fun _ _ _ h => h) (by rfl) ?_ (by assumption) ?_
    rotate_left
    · (intro w9 hSw; have q0 := ctx_cell0 hSw.1; obtain ⟨q1, q2, q3, q4, q5, q6, q7, q8, q9⟩ := ctx_cells hSw.1; have q11 := dict_cell11 hSw.2.1; clear hSw; go_simp; (try with_reducible rfl))
    try simp only [Act.put, List.setIfInBounds_toArray, List.set_cons_zero, List.set_cons_succ]
    refine takeL (i := 10) (v := ?_) rfl (by kernel_rfl) (by kernel_rfl) (by kernel_rfl) (fun _ _ _ h => h) (by rfl) ?_ (by assumption) ?_
    rotate_left
    · (intro w9 hSw; have q0 := ctx_cell0 hSw.1; obtain ⟨q1, q2, q3, q4, q5, q6, q7, q8, q9⟩ := ctx_cells hSw.1; have q11 := dict_cell11 hSw.2.1; clear hSw; go_simp; (try with_reducible rfl))
    try simp only [Act.put, List.setIfInBounds_toArray, List.set_cons_zero, List.set_cons_succ]
    refine skipL (i := 11) rfl (by kernel_rfl) (by kernel_rfl) (by kernel_rfl) (fun _ _ _ h => h) (by rfl) (by assumption) ?_
    try simp only [Act.put, List.setIfInBounds_toArray, List.set_cons_zero, List.set_cons_succ]
    refine skipL (i := 12) rfl (by kernel_rfl) (by kernel_rfl) (by kernel_rfl) (fun _ _ _ h => h) (by rfl) (by assumption) ?_
    try simp only [Act.put, List.setIfInBounds_toArray, List.set_cons_zero, List.set_cons_succ]
    refine skipL (i := 13) rfl (by kernel_rfl) (by kernel_rfl) (by kernel_rfl) (fun _ _ _ h => h) (by rfl) (by assumption) ?_
    try simp only [Act.put, List.setIfInBounds_toArray, List.set_cons_zero, List.set_cons_succ]
    refine callL (i := 14) rfl (by kernel_rfl) (fun Kont hK => ?_)
    go_simp
    refine hK.out _ _ ?_ (fun hHeld => ?_)
    · (exact hHeld)
    clear hK Kont
    refine takeL (i := 15) (v := ?_) rfl (by kernel_rfl) (by kernel_rfl) (by kernel_rfl) (fun _ _ _ h => h) (by rfl) ?_ (by assumption) ?_
    rotate_left
    · (intro w9 hSw; have q0 := ctx_cell0 hSw.1; obtain ⟨q1, q2, q3, q4, q5, q6, q7, q8, q9⟩ := ctx_cells hSw.1; have q11 := dict_cell11 hSw.2.1; clear hSw; go_simp; (try with_reducible rfl))
    try simp only [Act.put, List.setIfInBounds_toArray, List.set_cons_zero, List.set_cons_succ]
    refine takeL (i := 16) (v := ?_) rfl (by kernel_rfl) (by kernel_rfl) (by kernel_rfl) (fun _ _ _ h => h) (by rfl) ?_ (by assumption) ?_
    rotate_left
    · (intro w9 hSw; have q0 := ctx_cell0 hSw.1; obtain ⟨q1, q2, q3, q4, q5, q6, q7, q8, q9⟩ := ctx_cells hSw.1; have q11 := dict_cell11 hSw.2.1; clear hSw; go_simp; (try with_reducible rfl))
    try simp only [Act.put, List.setIfInBounds_toArray, List.set_cons_zero, List.set_cons_succ]
    refine skipL (i := 17) rfl (by kernel_rfl) (by kernel_rfl) (by kernel_rfl) (fun _ _ _ h => h) (by rfl) (by assumption) ?_
    try simp only [Act.put, List.setIfInBounds_toArray, List.set_cons_zero, List.set_cons_succ]
    refine skipL (i := 18) rfl (by kernel_rfl) (by kernel_rfl) (by kernel_rfl) (fun _ _ _ h => h) (by rfl) (by assumption) ?_
    try simp only [Act.put, List.setIfInBounds_toArray, List.set_cons_zero, List.set_cons_succ]
    refine skipL (i := 19) rfl (by kernel_rfl) (by kernel_rfl) (by kernel_rfl) (fun _ _ _ h => h) (by rfl) (by assumption) ?_
    try simp only [Act.put, List.setIfInBounds_toArray, List.set_cons_zero, List.set_cons_succ]
    refine callL (i := 20) rfl (by kernel_rfl) (fun Kont hK => ?_)
    go_simp
    refine hK.out _ _ ?_ (fun hHeld => ?_)
    · (exact hHeld)
    clear hK Kont
    refine takeL (i := 21) (v := ?_) rfl (by kernel_rfl) (by kernel_rfl) (by kernel_rfl) (fun _ _ _ h => h) (by rfl) ?_ (by assumption) ?_
    rotate_left
    · (intro w9 hSw; have q0 := ctx_cell0 hSw.1; obtain ⟨q1, q2, q3, q4, q5, q6, q7, q8, q9⟩ := ctx_cells hSw.1; have q11 := dict_cell11 hSw.2.1; clear hSw; go_simp; (try with_reducible rfl))
    try simp only [Act.put, List.setIfInBounds_toArray, List.set_cons_zero, List.set_cons_succ]
    refine takeL (i := 22) (v := ?_) rfl (by kernel_rfl) (by kernel_rfl) (by kernel_rfl) (fun _ _ _ h => h) (by rfl) ?_ (by assumption) ?_
    rotate_left
    · (intro w9 hSw; have q0 := ctx_cell0 hSw.1; obtain ⟨q1, q2, q3, q4, q5, q6, q7, q8, q9⟩ := ctx_cells hSw.1; have q11 := dict_cell11 hSw.2.1; clear hSw; go_simp; (try with_reducible rfl))
    try simp only [Act.put, List.setIfInBounds_toArray, List.set_cons_zero, List.set_cons_succ]
    refine skipL (i := 23) rfl (by kernel_rfl) (by kernel_rfl) (by kernel_rfl) (fun _ _ _ h => h) (by rfl) (by assumption) ?_
    try simp only [Act.put, List.setIfInBounds_toArray, List.set_cons_zero, List.set_cons_succ]
    refine skipL (i := 24) rfl (by kernel_rfl) (by kernel_rfl) (by kernel_rfl) (fun _ _ _ h => h) (by rfl) (by assumption) ?_
    try simp only [Act.put, List.setIfInBounds_toArray, List.set_cons_zero, List.set_cons_succ]
    refine callL (i := 25) rfl (by kernel_rfl) (fun Kont hK => ?_)
    go_simp
    refine hK.out _ _ ?_ (fun hHeld => ?_)
    · (exact hHeld)
    clear hK Kont
    refine skipL (i := 26) rfl (by kernel_rfl) (by kernel_rfl) (by kernel_rfl) (fun _ _ _ h => h) (by rfl) (by assumption) ?_
    try simp only [Act.put, List.setIfInBounds_toArray, List.set_cons_zero, List.set_cons_succ]
    refine takeL (i := 27) (v := ?_) rfl (by kernel_rfl) (by kernel_rfl) (by kernel_rfl) (fun _ _ _ h => h) (by rfl) ?_ (by assumption) ?_
    rotate_left
    · (intro w9 hSw; have q0 := ctx_cell0 hSw.1; obtain ⟨q1, q2, q3, q4, q5, q6, q7, q8, q9⟩ := ctx_cells hSw.1; have q11 := dict_cell11 hSw.2.1; clear hSw; go_simp; (try with_reducible rfl))
    try simp only [Act.put, List.setIfInBounds_toArray, List.set_cons_zero, List.set_cons_succ]
    refine takeL (i := 28) (v := ?_) rfl (by kernel_rfl) (by kernel_rfl) (by kernel_rfl) (fun _ _ _ h => h) (by rfl) ?_ (by assumption) ?_
    rotate_left
    · (intro w9 hSw; have q0 := ctx_cell0 hSw.1; obtain ⟨q1, q2, q3, q4, q5, q6, q7, q8, q9⟩ := ctx_cells hSw.1; have q11 := dict_cell11 hSw.2.1; clear hSw; go_simp; (try with_reducible rfl))
    try simp only [Act.put, List.setIfInBounds_toArray, List.set_cons_zero, List.set_cons_succ]
    refine skipL (i := 29) rfl (by kernel_rfl) (by kernel_rfl) (by kernel_rfl) (fun _ _ _ h => h) (by rfl) (by assumption) ?_
    try simp only [Act.put, List.setIfInBounds_toArray, List.set_cons_zero, List.set_cons_succ]
    refine skipL (i := 30) rfl (by kernel_rfl) (by kernel_rfl) (by kernel_rfl) (fun _ _ _ h => h) (by rfl) (by assumption) ?_
    try simp only [Act.put, List.setIfInBounds_toArray, List.set_cons_zero, List.set_cons_succ]
    refine callL (i := 31) rfl (by kernel_rfl) (fun Kont hK => ?_)
    go_simp
    refine hK.out _ _ ?_ (fun hHeld => ?_)
    · (exact hHeld)
    clear hK Kont
    refine skipL (i := 32) rfl (by kernel_rfl) (by kernel_rfl) (by kernel_rfl) (fun _ _ _ h => h) (by rfl) (by assumption) ?_
    try simp only [Act.put, List.setIfInBounds_toArray, List.set_cons_zero, List.set_cons_succ]
    refine takeL (i := 33) (v := ?_) rfl (by kernel_rfl) (by kernel_rfl) (by kernel_rfl) (fun _ _ _ h => h) (by rfl) ?_ (by assumption) ?_
    rotate_left
    · (intro w9 hSw; have q0 := ctx_cell0 hSw.1; obtain ⟨q1, q2, q3, q4, q5, q6, q7, q8, q9⟩ := ctx_cells hSw.1; have q11 := dict_cell11 hSw.2.1; clear hSw; go_simp; (try with_reducible rfl))
    try simp only [Act.put, List.setIfInBounds_toArray, List.set_cons_zero, List.set_cons_succ]
    refine takeL (i := 34) (v := ?_) rfl (by kernel_rfl) (by kernel_rfl) (by kernel_rfl) (fun _ _ _ h => h) (by rfl) ?_ (by assumption) ?_
    rotate_left
    · (intro w9 hSw; have q0 := ctx_cell0 hSw.1; obtain ⟨q1, q2, q3, q4, q5, q6, q7, q8, q9⟩ := ctx_cells hSw.1; have q11 := dict_cell11 hSw.2.1; clear hSw; go_simp; (try with_reducible rfl))
    try simp only [Act.put, List.setIfInBounds_toArray, List.set_cons_zero, List.set_cons_succ]
    refine skipL (i := 35) rfl (by kernel_rfl) (by kernel_rfl) (by kernel_rfl) (fun _ _ _ h => h) (by rfl) (by assumption) ?_
    try simp only [Act.put, List.setIfInBounds_toArray, List.set_cons_zero, List.set_cons_succ]
    refine skipL (i := 36) rfl (by kernel_rfl) (by kernel_rfl) (by kernel_rfl) (fun _ _ _ h => h) (by rfl) (by assumption) ?_
    try simp only [Act.put, List.setIfInBounds_toArray, List.set_cons_zero, List.set_cons_succ]
    refine skipL (i := 37) rfl (by kernel_rfl) (by kernel_rfl) (by kernel_rfl) (fun _ _ _ h => h) (by rfl) (by assumption) ?_
    try simp only [Act.put, List.setIfInBounds_toArray, List.set_cons_zero, List.set_cons_succ]
    refine skipL (i := 38) rfl (by kernel_rfl) (by kernel_rfl) (by kernel_rfl) (fun _ _ _ h => h) (by rfl) (by assumption) ?_
    try simp only [Act.put, List.setIfInBounds_toArray, List.set_cons_zero, List.set_cons_succ]
    refine takeL (i := 39) (v := ?_) rfl (by kernel_rfl) (by kernel_rfl) (by kernel_rfl) (fun _ _ _ h => h) (by rfl) ?_ (by assumption) ?_
    rotate_left
    · (intro w9 hSw; have q0 := ctx_cell0 hSw.1; obtain ⟨q1, q2, q3, q4, q5, q6, q7, q8, q9⟩ := ctx_cells hSw.1; have q11 := dict_cell11 hSw.2.1; clear hSw; go_simp; (try with_reducible rfl))
    try simp only [Act.put, List.setIfInBounds_toArray, List.set_cons_zero, List.set_cons_succ]
    refine takeL (i := 40) (v := ?_) rfl (by kernel_rfl) (by kernel_rfl) (by kernel_rfl) (fun _ _ _ h => h) (by rfl) ?_ (by assumption) ?_
    rotate_left
    · (intro w9 hSw; have q0 := ctx_cell0 hSw.1; obtain ⟨q1, q2, q3, q4, q5, q6, q7, q8, q9⟩ := ctx_cells hSw.1; have q11 := dict_cell11 hSw.2.1; clear hSw; go_simp; (try with_reducible rfl))
    try simp only [Act.put, List.setIfInBounds_toArray, List.set_cons_zero, List.set_cons_succ]
    refine wpAnyH_done (by kernel_rfl) ?_ _
    go_wp2_with fail
    go_ret
    exact ⟨by simp, hHeld.2.2⟩
  cases R2
  · skip
    refine takeL (i := 0) (v := ?_) rfl (by kernel_rfl) (by kernel_rfl) (by kernel_rfl) (fun _ _ _ h => h) (by rfl) ?_ (by assumption) ?_
    rotate_left
    · (intro w9 hSw; have q0 := ctx_cell0 hSw.1; obtain ⟨q1, q2, q3, q4, q5, q6, q7, q8, q9⟩ := ctx_cells hSw.1; have q11 := dict_cell11 hSw.2.1; clear hSw; go_simp; (try with_reducible rfl))
    try simp only [Act.put, List.setIfInBounds_toArray, List.set_cons_zero, List.set_cons_succ]
    refine takeL (i := 1) (v := ?_) rfl (by kernel_rfl) (by kernel_rfl) (by kernel_rfl) (fun _ _ _ h => h) (by rfl) ?_ (by assumption) ?_
    rotate_left
    · (intro w9 hSw; have q0 := ctx_cell0 hSw.1; obtain ⟨q1, q2, q3, q4, q5, q6, q7, q8, q9⟩ := ctx_cells hSw.1; have q11 := dict_cell11 hSw.2.1; clear hSw; go_simp; (try with_reducible rfl))
    try simp only [Act.put, List.setIfInBounds_toArray, List.set_cons_zero, List.set_cons_succ]
    refine takeL (i := 2) (v := ?_) rfl (by kernel_rfl) (by kernel_rfl) (by kernel_rfl) (fun _ _ _ h => h) (by rfl) ?_ (by assumption) ?_
    rotate_left
    · (intro w9 hSw; have q0 := ctx_cell0 hSw.1; obtain ⟨q1, q2, q3, q4, q5, q6, q7, q8, q9⟩ := ctx_cells hSw.1; have q11 := dict_cell11 hSw.2.1; clear hSw; go_simp; (try with_reducible rfl))
    try simp only [Act.put, List.setIfInBounds_toArray, List.set_cons_zero, List.set_cons_succ]
    refine takeL (i := 3) (v := ?_) rfl (by kernel_rfl) (by kernel_rfl) (by kernel_rfl) (fun _ _ _ h => h) (by rfl) ?_ (by assumption) ?_
    rotate_left
    · (intro w9 hSw; have q0 := ctx_cell0 hSw.1; obtain ⟨q1, q2, q3, q4, q5, q6, q7, q8, q9⟩ := ctx_cells hSw.1; have q11 := dict_cell11 hSw.2.1; clear hSw; go_simp; (try with_reducible rfl))
    try simp only [Act.put, List.setIfInBounds_toArray, List.set_cons_zero, List.set_cons_succ]
    refine takeL (i := 4) (v := ?_) rfl (by kernel_rfl) (by kernel_rfl) (by kernel_rfl) (fun _ _ _ h => h) (by rfl) ?_ (by assumption) ?_
    rotate_left
    · (intro w9 hSw; have q0 := ctx_cell0 hSw.1; obtain ⟨q1, q2, q3, q4, q5, q6, q7, q8, q9⟩ := ctx_cells hSw.1; have q11 := dict_cell11 hSw.2.1; clear hSw; go_simp; (try with_reducible rfl))
    try simp only [Act.put, List.setIfInBounds_toArray, List.set_cons_zero, List.set_cons_succ]
    refine takeL (i := 5) (v := ?_) rfl (by kernel_rfl) (by kernel_rfl) (by kernel_rfl) (fun _ _ _ h => h) (by rfl) ?_ (by assumption) ?_
    rotate_left
    · (intro w9 hSw; have q0 := ctx_cell0 hSw.1; obtain ⟨q1, q2, q3, q4, q5, q6, q7, q8, q9⟩ := ctx_cells hSw.1; have q11 := dict_cell11 hSw.2.1; clear hSw; go_simp; (try with_reducible rfl))
    try simp only [Act.put, List.setIfInBounds_toArray, List.set_cons_zero, List.set_cons_succ]
    refine takeL (i := 6) (v := ?_) rfl (by kernel_rfl) (by kernel_rfl) (by kernel_rfl) (fun _ _ _ h => h) (by rfl) ?_ (by assumption) ?_
    rotate_left
    · (intro w9 hSw; have q0 := ctx_cell0 hSw.1; obtain ⟨q1, q2, q3, q4, q5, q6, q7, q8, q9⟩ := ctx_cells hSw.1; have q11 := dict_cell11 hSw.2.1; clear hSw; go_simp; (try with_reducible rfl))
    try simp only [Act.put, List.setIfInBounds_toArray, List.set_cons_zero, List.set_cons_succ]
    refine takeL (i := 7) (v := ?_) rfl (by kernel_rfl) (by kernel_rfl) (by kernel_rfl) (fun _ _ _ h => h) (by rfl) ?_ (by assumption) ?_
    rotate_left
    · (intro w9 hSw; have q0 := ctx_cell0 hSw.1; obtain ⟨q1, q2, q3, q4, q5, q6, q7, q8, q9⟩ := ctx_cells hSw.1; have q11 := dict_cell11 hSw.2.1; clear hSw; go_simp; (try with_reducible rfl))
    try simp only [Act.put, List.setIfInBounds_toArray, List.set_cons_zero, List.set_cons_succ]
    refine callL (i := 8) rfl (by kernel_rfl) (fun Kont hK => ?_)
    go_simp
    refine (HT1.out _ hHeld.2.2).mono ?_; rintro e w1 ⟨rfl, kk⟩
    go_wp2_with fail
    refine hK.out _ _ ?_ (fun hHeld => ?_)
    · (exact ⟨hHeld.1.keeps kk (by simp), hHeld.2.1.keeps kk (by simp), hHeld.2.2.then kk⟩)
    clear hK Kont
    refine takeL (i := 9) (v := ?_) rfl (by kernel_rfl) (by kernel_rfl) (by kernel_rfl) (fun _ _ _ h => h) (by rfl) ?_ (by assumption) ?_
    rotate_left
    · (intro w9 hSw; have q0 := ctx_cell0 hSw.1; obtain ⟨q1, q2, q3, q4, q5, q6, q7, q8, q9⟩ := ctx_cells hSw.1; have q11 := dict_cell11 hSw.2.1; clear hSw; go_simp; (try with_reducible rfl))
    try simp only [Act.put, List.setIfInBounds_toArray, List.set_cons_zero, List.set_cons_succ]
    refine takeL (i := 10) (v := ?_) rfl (by kernel_rfl) (by kernel_rfl) (by kernel_rfl) (fun _ _ _ h => h) (by rfl) ?_ (by assumption) ?_
    rotate_left
    · (intro w9 hSw; have q0 := ctx_cell0 hSw.1; obtain ⟨q1, q2, q3, q4, q5, q6, q7, q8, q9⟩ := ctx_cells hSw.1; have q11 := dict_cell11 hSw.2.1; clear hSw; go_simp; (try with_reducible rfl))
    try simp only [Act.put, List.setIfInBounds_toArray, List.set_cons_zero, List.set_cons_succ]
    refine takeL (i := 11) (v := ?_) rfl (by kernel_rfl) (by kernel_rfl) (by kernel_rfl) (fun _ _ _ h => h) (by rfl) ?_ (by assumption) ?_
    rotate_left
    · (intro w9 hSw; have q0 := ctx_cell0 hSw.1; obtain ⟨q1, q2, q3, q4, q5, q6, q7, q8, q9⟩ := ctx_cells hSw.1; have q11 := dict_cell11 hSw.2.1; clear hSw; go_simp; (try with_reducible rfl))
    try simp only [Act.put, List.setIfInBounds_toArray, List.set_cons_zero, List.set_cons_succ]
    refine takeL (i := 12) (v := ?_) rfl (by kernel_rfl) (by kernel_rfl) (by kernel_rfl) (fun _ _ _ h => h) (by rfl) ?_ (by assumption) ?_
    rotate_left
    · (intro w9 hSw; have q0 := ctx_cell0 hSw.1; obtain ⟨q1, q2, q3, q4, q5, q6, q7, q8, q9⟩ := ctx_cells hSw.1; have q11 := dict_cell11 hSw.2.1; clear hSw; go_simp; (try with_reducible rfl))
    try simp only [Act.put, List.setIfInBounds_toArray, List.set_cons_zero, List.set_cons_succ]
    refine takeL (i := 13) (v := ?_) rfl (by kernel_rfl) (by kernel_rfl) (by kernel_rfl) (fun _ _ _ h => h) (by rfl) ?_ (by assumption) ?_
    rotate_left
    · (intro w9 hSw; have q0 := ctx_cell0 hSw.1; obtain ⟨q1, q2, q3, q4, q5, q6, q7, q8, q9⟩ := ctx_cells hSw.1; have q11 := dict_cell11 hSw.2.1; clear hSw; go_simp; (try with_reducible rfl))
    try simp only [Act.put, List.setIfInBounds_toArray, List.set_cons_zero, List.set_cons_succ]
    refine callL (i := 14) rfl (by kernel_rfl) (fun Kont hK => ?_)
    go_simp
    refine (HT2.out _ hHeld.2.2).mono ?_; rintro e w2 ⟨rfl, kk⟩
    go_wp2_with fail
    refine hK.out _ _ ?_ (fun hHeld => ?_)
    · (exact ⟨hHeld.1.keeps kk (by simp), hHeld.2.1.keeps kk (by simp), hHeld.2.2.then kk⟩)
    clear hK Kont
    refine takeL (i := 15) (v := ?_) rfl (by kernel_rfl) (by kernel_rfl) (by kernel_rfl) (fun _ _ _ h => h) (by rfl) ?_ (by assumption) ?_
    rotate_left
    · (intro w9 hSw; have q0 := ctx_cell0 hSw.1; obtain ⟨q1, q2, q3, q4, q5, q6, q7, q8, q9⟩ := ctx_cells hSw.1; have q11 := dict_cell11 hSw.2.1; clear hSw; go_simp; (try with_reducible rfl))
    try simp only [Act.put, List.setIfInBounds_toArray, List.set_cons_zero, List.set_cons_succ]
    refine takeL (i := 16) (v := ?_) rfl (by kernel_rfl) (by kernel_rfl) (by kernel_rfl) (fun _ _ _ h => h) (by rfl) ?_ (by assumption) ?_
    rotate_left
    · (intro w9 hSw; have q0 := ctx_cell0 hSw.1; obtain ⟨q1, q2, q3, q4, q5, q6, q7, q8, q9⟩ := ctx_cells hSw.1; have q11 := dict_cell11 hSw.2.1; clear hSw; go_simp; (try with_reducible rfl))
    try simp only [Act.put, List.setIfInBounds_toArray, List.set_cons_zero, List.set_cons_succ]
    refine skipL (i := 17) rfl (by kernel_rfl) (by kernel_rfl) (by kernel_rfl) (fun _ _ _ h => h) (by rfl) (by assumption) ?_
    try simp only [Act.put, List.setIfInBounds_toArray, List.set_cons_zero, List.set_cons_succ]
    refine skipL (i := 18) rfl (by kernel_rfl) (by kernel_rfl) (by kernel_rfl) (fun _ _ _ h => h) (by rfl) (by assumption) ?_
    try simp only [Act.put, List.setIfInBounds_toArray, List.set_cons_zero, List.set_cons_succ]
    refine skipL (i := 19) rfl (by kernel_rfl) (by kernel_rfl) (by kernel_rfl) (fun _ _ _ h => h) (by rfl) (by assumption) ?_
    try simp only [Act.put, List.setIfInBounds_toArray, List.set_cons_zero, List.set_cons_succ]
    refine callL (i := 20) rfl (by kernel_rfl) (fun Kont hK => ?_)
    go_simp
    refine hK.out _ _ ?_ (fun hHeld => ?_)
    · (exact hHeld)
    clear hK Kont
    refine takeL (i := 21) (v := ?_) rfl (by kernel_rfl) (by kernel_rfl) (by kernel_rfl) (fun _ _ _ h => h) (by rfl) ?_ (by assumption) ?_
    rotate_left
    · (intro w9 hSw; have q0 := ctx_cell0 hSw.1; obtain ⟨q1, q2, q3, q4, q5, q6, q7, q8, q9⟩ := ctx_cells hSw.1; have q11 := dict_cell11 hSw.2.1; clear hSw; go_simp; (try with_reducible rfl))
    try simp only [Act.put, List.setIfInBounds_toArray, List.set_cons_zero, List.set_cons_succ]
    refine takeL (i := 22) (v := ?_) rfl (by kernel_rfl) (by kernel_rfl) (by kernel_rfl) (fun _ _ _ h => h) (by rfl) ?_ (by assumption) ?_
    rotate_left
    · (intro w9 hSw; have q0 := ctx_cell0 hSw.1; obtain ⟨q1, q2, q3, q4, q5, q6, q7, q8, q9⟩ := ctx_cells hSw.1; have q11 := dict_cell11 hSw.2.1; clear hSw; go_simp; (try with_reducible rfl))
    try simp only [Act.put, List.setIfInBounds_toArray, List.set_cons_zero, List.set_cons_succ]
    refine skipL (i := 23) rfl (by kernel_rfl) (by kernel_rfl) (by kernel_rfl) (fun _ _ _ h => h) (by rfl) (by assumption) ?_
    try simp only [Act.put, List.setIfInBounds_toArray, List.set_cons_zero, List.set_cons_succ]
    refine skipL (i := 24) rfl (by kernel_rfl) (by kernel_rfl) (by kernel_rfl) (fun _ _ _ h => h) (by rfl) (by assumption) ?_
    try simp only [Act.put, List.setIfInBounds_toArray, List.set_cons_zero, List.set_cons_succ]
    refine callL (i := 25) rfl (by kernel_rfl) (fun Kont hK => ?_)
    go_simp
    refine hK.out _ _ ?_ (fun hHeld => ?_)
    · (exact hHeld)
    clear hK Kont
    refine skipL (i := 26) rfl (by kernel_rfl) (by kernel_rfl) (by kernel_rfl) (fun _ _ _ h => h) (by rfl) (by assumption) ?_
    try simp only [Act.put, List.setIfInBounds_toArray, List.set_cons_zero, List.set_cons_succ]
    refine takeL (i := 27) (v := ?_) rfl (by kernel_rfl) (by kernel_rfl) (by kernel_rfl) (fun _ _ _ h => h) (by rfl) ?_ (by assumption) ?_
    rotate_left
    · (intro w9 hSw; have q0 := ctx_cell0 hSw.1; obtain ⟨q1, q2, q3, q4, q5, q6, q7, q8, q9⟩ := ctx_cells hSw.1; have q11 := dict_cell11 hSw.2.1; clear hSw; go_simp; (try with_reducible rfl))
    try simp only [Act.put, List.setIfInBounds_toArray, List.set_cons_zero, List.set_cons_succ]
    refine takeL (i := 28) (v := ?_) rfl (by kernel_rfl) (by kernel_rfl) (by kernel_rfl) (fun _ _ _ h => h) (by rfl) ?_ (by assumption) ?_
    rotate_left
    · (intro w9 hSw; have q0 := ctx_cell0 hSw.1; obtain ⟨q1, q2, q3, q4, q5, q6, q7, q8, q9⟩ := ctx_cells hSw.1; have q11 := dict_cell11 hSw.2.1; clear hSw; go_simp; (try with_reducible rfl))
    try simp only [Act.put, List.setIfInBounds_toArray, List.set_cons_zero, List.set_cons_succ]
    refine skipL (i := 29) rfl (by kernel_rfl) (by kernel_rfl) (by kernel_rfl) (fun _ _ _ h => h) (by rfl) (by assumption) ?_
    try simp only [Act.put, List.setIfInBounds_toArray, List.set_cons_zero, List.set_cons_succ]
    refine skipL (i := 30) rfl (by kernel_rfl) (by kernel_rfl) (by kernel_rfl) (fun _ _ _ h => h) (by rfl) (by assumption) ?_
    try simp only [Act.put, List.setIfInBounds_toArray, List.set_cons_zero, List.set_cons_succ]
    refine callL (i := 31) rfl (by kernel_rfl) (fun Kont hK => ?_)
    go_simp
    refine hK.out _ _ ?_ (fun hHeld => ?_)
    · (exact hHeld)
    clear hK Kont
    refine skipL (i := 32) rfl (by kernel_rfl) (by kernel_rfl) (by kernel_rfl) (fun _ _ _ h => h) (by rfl) (by assumption) ?_
    try simp only [Act.put, List.setIfInBounds_toArray, List.set_cons_zero, List.set_cons_succ]
    refine takeL (i := 33) (v := ?_) rfl (by kernel_rfl) (by kernel_rfl) (by kernel_rfl) (fun _ _ _ h => h) (by rfl) ?_ (by assumption) ?_
    rotate_left
    · (intro w9 hSw; have q0 := ctx_cell0 hSw.1; obtain ⟨q1, q2, q3, q4, q5, q6, q7, q8, q9⟩ := ctx_cells hSw.1; have q11 := dict_cell11 hSw.2.1; clear hSw; go_simp; (try with_reducible rfl))
    try simp only [Act.put, List.setIfInBounds_toArray, List.set_cons_zero, List.set_cons_succ]
    refine takeL (i := 34) (v := ?_) rfl (by kernel_rfl) (by kernel_rfl) (by kernel_rfl) (fun _ _ _ h => h) (by rfl) ?_ (by assumption) ?_
    rotate_left
    · (intro w9 hSw; have q0 := ctx_cell0 hSw.1; obtain ⟨q1, q2, q3, q4, q5, q6, q7, q8, q9⟩ := ctx_cells hSw.1; have q11 := dict_cell11 hSw.2.1; clear hSw; go_simp; (try with_reducible rfl))
    try simp only [Act.put, List.setIfInBounds_toArray, List.set_cons_zero, List.set_cons_succ]
    refine skipL (i := 35) rfl (by kernel_rfl) (by kernel_rfl) (by kernel_rfl) (fun _ _ _ h => h) (by rfl) (by assumption) ?_
    try simp only [Act.put, List.setIfInBounds_toArray, List.set_cons_zero, List.set_cons_succ]
    refine skipL (i := 36) rfl (by kernel_rfl) (by kernel_rfl) (by kernel_rfl) (fun _ _ _ h => h) (by rfl) (by assumption) ?_
    try simp only [Act.put, List.setIfInBounds_toArray, List.set_cons_zero, List.set_cons_succ]
    refine skipL (i := 37) rfl (by kernel_rfl) (by kernel_rfl) (by kernel_rfl) (fun _ _ _ h => h) (by rfl) (by assumption) ?_
    try simp only [Act.put, List.setIfInBounds_toArray, List.set_cons_zero, List.set_cons_succ]
    refine skipL (i := 38) rfl (by kernel_rfl) (by kernel_rfl) (by kernel_rfl) (fun _ _ _ h => h) (by rfl) (by assumption) ?_
    try simp only [Act.put, List.setIfInBounds_toArray, List.set_cons_zero, List.set_cons_succ]
    refine takeL (i := 39) (v := ?_) rfl (by kernel_rfl) (by kernel_rfl) (by kernel_rfl) (fun _ _ _ h => h) (by rfl) ?_ (by assumption) ?_
    rotate_left
    · (intro w9 hSw; have q0 := ctx_cell0 hSw.1; obtain ⟨q1, q2, q3, q4, q5, q6, q7, q8, q9⟩ := ctx_cells hSw.1; have q11 := dict_cell11 hSw.2.1; clear hSw; go_simp; (try with_reducible rfl))
    try simp only [Act.put, List.setIfInBounds_toArray, List.set_cons_zero, List.set_cons_succ]
    refine takeL (i := 40) (v := ?_) rfl (by kernel_rfl) (by kernel_rfl) (by kernel_rfl) (fun _ _ _ h => h) (by rfl) ?_ (by assumption) ?_
    rotate_left
    · (intro w9 hSw; have q0 := ctx_cell0 hSw.1; obtain ⟨q1, q2, q3, q4, q5, q6, q7, q8, q9⟩ := ctx_cells hSw.1; have q11 := dict_cell11 hSw.2.1; clear hSw; go_simp; (try with_reducible rfl))
    try simp only [Act.put, List.setIfInBounds_toArray, List.set_cons_zero, List.set_cons_succ]
    refine wpAnyH_done (by kernel_rfl) ?_ _
    go_wp2_with fail
    go_ret
    exact ⟨by simp, hHeld.2.2⟩
  cases R3
  · skip
    refine takeL (i := 0) (v := ?_) rfl (by kernel_rfl) (by kernel_rfl) (by kernel_rfl) (fun _ _ _ h => h) (by rfl) ?_ (by assumption) ?_
    rotate_left
    · (intro w9 hSw; have q0 := ctx_cell0 hSw.1; obtain ⟨q1, q2, q3, q4, q5, q6, q7, q8, q9⟩ := ctx_cells hSw.1; have q11 := dict_cell11 hSw.2.1; clear hSw; go_simp; (try with_reducible rfl))
    try simp only [Act.put, List.setIfInBounds_toArray, List.set_cons_zero, List.set_cons_succ]
    refine takeL (i := 1) (v := ?_) rfl (by kernel_rfl) (by kernel_rfl) (by kernel_rfl) (fun _ _ _ h => h) (by rfl) ?_ (by assumption) ?_
    rotate_left
    · (intro w9 hSw; have q0 := ctx_cell0 hSw.1; obtain ⟨q1, q2, q3, q4, q5, q6, q7, q8, q9⟩ := ctx_cells hSw.1; have q11 := dict_cell11 hSw.2.1; clear hSw; go_simp; (try with_reducible rfl))
    try simp only [Act.put, List.setIfInBounds_toArray, List.set_cons_zero, List.set_cons_succ]
    refine takeL (i := 2) (v := ?_) rfl (by kernel_rfl) (by kernel_rfl) (by kernel_rfl) (fun _ _ _ h => h) (by rfl) ?_ (by assumption) ?_
    rotate_left
    · (intro w9 hSw; have q0 := ctx_cell0 hSw.1; obtain ⟨q1, q2, q3, q4, q5, q6, q7, q8, q9⟩ := ctx_cells hSw.1; have q11 := dict_cell11 hSw.2.1; clear hSw; go_simp; (try with_reducible rfl))
    try simp only [Act.put, List.setIfInBounds_toArray, List.set_cons_zero, List.set_cons_succ]
    refine takeL (i := 3) (v := ?_) rfl (by kernel_rfl) (by kernel_rfl) (by kernel_rfl) (fun _ _ _ h => h) (by rfl) ?_ (by assumption) ?_
    rotate_left
    · (intro w9 hSw; have q0 := ctx_cell0 hSw.1; obtain ⟨q1, q2, q3, q4, q5, q6, q7, q8, q9⟩ := ctx_cells hSw.1; have q11 := dict_cell11 hSw.2.1; clear hSw; go_simp; (try with_reducible rfl))
    try simp only [Act.put, List.setIfInBounds_toArray, List.set_cons_zero, List.set_cons_succ]
    refine takeL (i := 4) (v := ?_) rfl (by kernel_rfl) (by kernel_rfl) (by kernel_rfl) (fun _ _ _ h => h) (by rfl) ?_ (by assumption) ?_
    rotate_left
    · (intro w9 hSw; have q0 := ctx_cell0 hSw.1; obtain ⟨q1, q2, q3, q4, q5, q6, q7, q8, q9⟩ := ctx_cells hSw.1; have q11 := dict_cell11 hSw.2.1; clear hSw; go_simp; (try with_reducible rfl))
    try simp only [Act.put, List.setIfInBounds_toArray, List.set_cons_zero, List.set_cons_succ]
    refine takeL (i := 5) (v := ?_) rfl (by kernel_rfl) (by kernel_rfl) (by kernel_rfl) (fun _ _ _ h => h) (by rfl) ?_ (by assumption) ?_
    rotate_left
    · (intro w9 hSw; have q0 := ctx_cell0 hSw.1; obtain ⟨q1, q2, q3, q4, q5, q6, q7, q8, q9⟩ := ctx_cells hSw.1; have q11 := dict_cell11 hSw.2.1; clear hSw; go_simp; (try with_reducible rfl))
    try simp only [Act.put, List.setIfInBounds_toArray, List.set_cons_zero, List.set_cons_succ]
    refine takeL (i := 6) (v := ?_) rfl (by kernel_rfl) (by kernel_rfl) (by kernel_rfl) (fun _ _ _ h => h) (by rfl) ?_ (by assumption) ?_
    rotate_left
    · (intro w9 hSw; have q0 := ctx_cell0 hSw.1; obtain ⟨q1, q2, q3, q4, q5, q6, q7, q8, q9⟩ := ctx_cells hSw.1; have q11 := dict_cell11 hSw.2.1; clear hSw; go_simp; (try with_reducible rfl))
    try simp only [Act.put, List.setIfInBounds_toArray, List.set_cons_zero, List.set_cons_succ]
    refine takeL (i := 7) (v := ?_) rfl (by kernel_rfl) (by kernel_rfl) (by kernel_rfl) (fun _ _ _ h => h) (by rfl) ?_ (by assumption) ?_
    rotate_left
    · (intro w9 hSw; have q0 := ctx_cell0 hSw.1; obtain ⟨q1, q2, q3, q4, q5, q6, q7, q8, q9⟩ := ctx_cells hSw.1; have q11 := dict_cell11 hSw.2.1; clear hSw; go_simp; (try with_reducible rfl))
    try simp only [Act.put, List.setIfInBounds_toArray, List.set_cons_zero, List.set_cons_succ]
    refine callL (i := 8) rfl (by kernel_rfl) (fun Kont hK => ?_)
    go_simp
    refine (HT1.out _ hHeld.2.2).mono ?_; rintro e w1 ⟨rfl, kk⟩
    go_wp2_with fail
    refine hK.out _ _ ?_ (fun hHeld => ?_)
    · (exact ⟨hHeld.1.keeps kk (by simp), hHeld.2.1.keeps kk (by simp), hHeld.2.2.then kk⟩)
    clear hK Kont
    refine takeL (i := 9) (v := ?_) rfl (by kernel_rfl) (by kernel_rfl) (by kernel_rfl) (fun _ _ _ h => h) (by rfl) ?_ (by assumption) ?_
    rotate_left
    · (intro w9 hSw; have q0 := ctx_cell0 hSw.1; obtain ⟨q1, q2, q3, q4, q5, q6, q7, q8, q9⟩ := ctx_cells hSw.1; have q11 := dict_cell11 hSw.2.1; clear hSw; go_simp; (try with_reducible rfl))
    try simp only [Act.put, List.setIfInBounds_toArray, List.set_cons_zero, List.set_cons_succ]
    refine takeL (i := 10) (v := ?_) rfl (by kernel_rfl) (by kernel_rfl) (by kernel_rfl) (fun _ _ _ h => h) (by rfl) ?_ (by assumption) ?_
    rotate_left
    · (intro w9 hSw; have q0 := ctx_cell0 hSw.1; obtain ⟨q1, q2, q3, q4, q5, q6, q7, q8, q9⟩ := ctx_cells hSw.1; have q11 := dict_cell11 hSw.2.1; clear hSw; go_simp; (try with_reducible rfl))
    try simp only [Act.put, List.setIfInBounds_toArray, List.set_cons_zero, List.set_cons_succ]
    refine takeL (i := 11) (v := ?_) rfl (by kernel_rfl) (by kernel_rfl) (by kernel_rfl) (fun _ _ _ h => h) (by rfl) ?_ (by assumption) ?_
    rotate_left
    · (intro w9 hSw; have q0 := ctx_cell0 hSw.1; obtain ⟨q1, q2, q3, q4, q5, q6, q7, q8, q9⟩ := ctx_cells hSw.1; have q11 := dict_cell11 hSw.2.1; clear hSw; go_simp; (try with_reducible rfl))
    try simp only [Act.put, List.setIfInBounds_toArray, List.set_cons_zero, List.set_cons_succ]
    refine takeL (i := 12) (v := ?_) rfl (by kernel_rfl) (by kernel_rfl) (by kernel_rfl) (fun _ _ _ h => h) (by rfl) ?_ (by assumption) ?_
    rotate_left
    · (intro w9 hSw; have q0 := ctx_cell0 hSw.1; obtain ⟨q1, q2, q3, q4, q5, q6, q7, q8, q9⟩ := ctx_cells hSw.1; have q11 := dict_cell11 hSw.2.1; clear hSw; go_simp; (try with_reducible rfl))
    try simp only [Act.put, List.setIfInBounds_toArray, List.set_cons_zero, List.set_cons_succ]
    refine takeL (i := 13) (v := ?_) rfl (by kernel_rfl) (by kernel_rfl) (by kernel_rfl) (fun _ _ _ h => h) (by rfl) ?_ (by assumption) ?_
    rotate_left
    · (intro w9 hSw; have q0 := ctx_cell0 hSw.1; obtain ⟨q1, q2, q3, q4, q5, q6, q7, q8, q9⟩ := ctx_cells hSw.1; have q11 := dict_cell11 hSw.2.1; clear hSw; go_simp; (try with_reducible rfl))
    try simp only [Act.put, List.setIfInBounds_toArray, List.set_cons_zero, List.set_cons_succ]
    refine callL (i := 14) rfl (by kernel_rfl) (fun Kont hK => ?_)
    go_simp
    refine (HT2.out _ hHeld.2.2).mono ?_; rintro e w2 ⟨rfl, kk⟩
    go_wp2_with fail
    refine hK.out _ _ ?_ (fun hHeld => ?_)
    · (exact ⟨hHeld.1.keeps kk (by simp), hHeld.2.1.keeps kk (by simp), hHeld.2.2.then kk⟩)
    clear hK Kont
    refine takeL (i := 15) (v := ?_) rfl (by kernel_rfl) (by kernel_rfl) (by kernel_rfl) (fun _ _ _ h => h) (by rfl) ?_ (by assumption) ?_
    rotate_left
    · (intro w9 hSw; have q0 := ctx_cell0 hSw.1; obtain ⟨q1, q2, q3, q4, q5, q6, q7, q8, q9⟩ := ctx_cells hSw.1; have q11 := dict_cell11 hSw.2.1; clear hSw; go_simp; (try with_reducible rfl))
    try simp only [Act.put, List.setIfInBounds_toArray, List.set_cons_zero, List.set_cons_succ]
    refine takeL (i := 16) (v := ?_) rfl (by kernel_rfl) (by kernel_rfl) (by kernel_rfl) (fun _ _ _ h => h) (by rfl) ?_ (by assumption) ?_
    rotate_left
    · (intro w9 hSw; have q0 := ctx_cell0 hSw.1; obtain ⟨q1, q2, q3, q4, q5, q6, q7, q8, q9⟩ := ctx_cells hSw.1; have q11 := dict_cell11 hSw.2.1; clear hSw; go_simp; (try with_reducible rfl))
    try simp only [Act.put, List.setIfInBounds_toArray, List.set_cons_zero, List.set_cons_succ]
    refine takeL (i := 17) (v := ?_) rfl (by kernel_rfl) (by kernel_rfl) (by kernel_rfl) (fun _ _ _ h => h) (by rfl) ?_ (by assumption) ?_
    rotate_left
    · (intro w9 hSw; have q0 := ctx_cell0 hSw.1; obtain ⟨q1, q2, q3, q4, q5, q6, q7, q8, q9⟩ := ctx_cells hSw.1; have q11 := dict_cell11 hSw.2.1; clear hSw; go_simp; (try with_reducible rfl))
    try simp only [Act.put, List.setIfInBounds_toArray, List.set_cons_zero, List.set_cons_succ]
    refine takeL (i := 18) (v := ?_) rfl (by kernel_rfl) (by kernel_rfl) (by kernel_rfl) (fun _ _ _ h => h) (by rfl) ?_ (by assumption) ?_
    rotate_left
    · (intro w9 hSw; have q0 := ctx_cell0 hSw.1; obtain ⟨q1, q2, q3, q4, q5, q6, q7, q8, q9⟩ := ctx_cells hSw.1; have q11 := dict_cell11 hSw.2.1; clear hSw; go_simp; (try with_reducible rfl))
    try simp only [Act.put, List.setIfInBounds_toArray, List.set_cons_zero, List.set_cons_succ]
    refine takeL (i := 19) (v := ?_) rfl (by kernel_rfl) (by kernel_rfl) (by kernel_rfl) (fun _ _ _ h => h) (by rfl) ?_ (by assumption) ?_
    rotate_left
    · (intro w9 hSw; have q0 := ctx_cell0 hSw.1; obtain ⟨q1, q2, q3, q4, q5, q6, q7, q8, q9⟩ := ctx_cells hSw.1; have q11 := dict_cell11 hSw.2.1; clear hSw; go_simp; (try with_reducible rfl))
    try simp only [Act.put, List.setIfInBounds_toArray, List.set_cons_zero, List.set_cons_succ]
    refine callL (i := 20) rfl (by kernel_rfl) (fun Kont hK => ?_)
    go_simp
    refine (HT3.out _ hHeld.2.2).mono ?_; rintro e w3 ⟨rfl, kk⟩
    go_wp2_with fail
    refine hK.out _ _ ?_ (fun hHeld => ?_)
    · (exact ⟨hHeld.1.keeps kk (by simp), hHeld.2.1.keeps kk (by simp), hHeld.2.2.then kk⟩)
    clear hK Kont
    refine takeL (i := 21) (v := ?_) rfl (by kernel_rfl) (by kernel_rfl) (by kernel_rfl) (fun _ _ _ h => h) (by rfl) ?_ (by assumption) ?_
    rotate_left
    · (intro w9 hSw; have q0 := ctx_cell0 hSw.1; obtain ⟨q1, q2, q3, q4, q5, q6, q7, q8, q9⟩ := ctx_cells hSw.1; have q11 := dict_cell11 hSw.2.1; clear hSw; go_simp; (try with_reducible rfl))
    try simp only [Act.put, List.setIfInBounds_toArray, List.set_cons_zero, List.set_cons_succ]
    refine takeL (i := 22) (v := ?_) rfl (by kernel_rfl) (by kernel_rfl) (by kernel_rfl) (fun _ _ _ h => h) (by rfl) ?_ (by assumption) ?_
    rotate_left
    · (intro w9 hSw; have q0 := ctx_cell0 hSw.1; obtain ⟨q1, q2, q3, q4, q5, q6, q7, q8, q9⟩ := ctx_cells hSw.1; have q11 := dict_cell11 hSw.2.1; clear hSw; go_simp; (try with_reducible rfl))
    try simp only [Act.put, List.setIfInBounds_toArray, List.set_cons_zero, List.set_cons_succ]
    refine skipL (i := 23) rfl (by kernel_rfl) (by kernel_rfl) (by kernel_rfl) (fun _ _ _ h => h) (by rfl) (by assumption) ?_
    try simp only [Act.put, List.setIfInBounds_toArray, List.set_cons_zero, List.set_cons_succ]
    refine skipL (i := 24) rfl (by kernel_rfl) (by kernel_rfl) (by kernel_rfl) (fun _ _ _ h => h) (by rfl) (by assumption) ?_
    try simp only [Act.put, List.setIfInBounds_toArray, List.set_cons_zero, List.set_cons_succ]
    refine callL (i := 25) rfl (by kernel_rfl) (fun Kont hK => ?_)
    go_simp
    refine hK.out _ _ ?_ (fun hHeld => ?_)
    · (exact hHeld)
    clear hK Kont
    refine skipL (i := 26) rfl (by kernel_rfl) (by kernel_rfl) (by kernel_rfl) (fun _ _ _ h => h) (by rfl) (by assumption) ?_
    try simp only [Act.put, List.setIfInBounds_toArray, List.set_cons_zero, List.set_cons_succ]
    refine takeL (i := 27) (v := ?_) rfl (by kernel_rfl) (by kernel_rfl) (by kernel_rfl) (fun _ _ _ h => h) (by rfl) ?_ (by assumption) ?_
    rotate_left
    · (intro w9 hSw; have q0 := ctx_cell0 hSw.1; obtain ⟨q1, q2, q3, q4, q5, q6, q7, q8, q9⟩ := ctx_cells hSw.1; have q11 := dict_cell11 hSw.2.1; clear hSw; go_simp; (try with_reducible rfl))
    try simp only [Act.put, List.setIfInBounds_toArray, List.set_cons_zero, List.set_cons_succ]
    refine takeL (i := 28) (v := ?_) rfl (by kernel_rfl) (by kernel_rfl) (by kernel_rfl) (fun _ _ _ h => h) (by rfl) ?_ (by assumption) ?_
    rotate_left
    · (intro w9 hSw; have q0 := ctx_cell0 hSw.1; obtain ⟨q1, q2, q3, q4, q5, q6, q7, q8, q9⟩ := ctx_cells hSw.1; have q11 := dict_cell11 hSw.2.1; clear hSw; go_simp; (try with_reducible rfl))
    try simp only [Act.put, List.setIfInBounds_toArray, List.set_cons_zero, List.set_cons_succ]
    refine skipL (i := 29) rfl (by kernel_rfl) (by kernel_rfl) (by kernel_rfl) (fun _ _ _ h => h) (by rfl) (by assumption) ?_
    try simp only [Act.put, List.setIfInBounds_toArray, List.set_cons_zero, List.set_cons_succ]
    refine skipL (i := 30) rfl (by kernel_rfl) (by kernel_rfl) (by kernel_rfl) (fun _ _ _ h => h) (by rfl) (by assumption) ?_
    try simp only [Act.put, List.setIfInBounds_toArray, List.set_cons_zero, List.set_cons_succ]
    refine callL (i := 31) rfl (by kernel_rfl) (fun Kont hK => ?_)
    go_simp
    refine hK.out _ _ ?_ (fun hHeld => ?_)
    · (exact hHeld)
    clear hK Kont
    refine skipL (i := 32) rfl (by kernel_rfl) (by kernel_rfl) (by kernel_rfl) (fun _ _ _ h => h) (by rfl) (by assumption) ?_
    try simp only [Act.put, List.setIfInBounds_toArray, List.set_cons_zero, List.set_cons_succ]
    refine takeL (i := 33) (v := ?_) rfl (by kernel_rfl) (by kernel_rfl) (by kernel_rfl) (fun _ _ _ h => h) (by rfl) ?_ (by assumption) ?_
    rotate_left
    · (intro w9 hSw; have q0 := ctx_cell0 hSw.1; obtain ⟨q1, q2, q3, q4, q5, q6, q7, q8, q9⟩ := ctx_cells hSw.1; have q11 := dict_cell11 hSw.2.1; clear hSw; go_simp; (try with_reducible rfl))
    try simp only [Act.put, List.setIfInBounds_toArray, List.set_cons_zero, List.set_cons_succ]
    refine takeL (i := 34) (v := ?_) rfl (by kernel_rfl) (by kernel_rfl) (by kernel_rfl) (fun _ _ _ h => h) (by rfl) ?_ (by assumption) ?_
    rotate_left
    · (intro w9 hSw; have q0 := ctx_cell0 hSw.1; obtain ⟨q1, q2, q3, q4, q5, q6, q7, q8, q9⟩ := ctx_cells hSw.1; have q11 := dict_cell11 hSw.2.1; clear hSw; go_simp; (try with_reducible rfl))
    try simp only [Act.put, List.setIfInBounds_toArray, List.set_cons_zero, List.set_cons_succ]
    refine skipL (i := 35) rfl (by kernel_rfl) (by kernel_rfl) (by kernel_rfl) (fun _ _ _ h => h) (by rfl) (by assumption) ?_
    try simp only [Act.put, List.setIfInBounds_toArray, List.set_cons_zero, List.set_cons_succ]
    refine skipL (i := 36) rfl (by kernel_rfl) (by kernel_rfl) (by kernel_rfl) (fun _ _ _ h => h) (by rfl) (by assumption) ?_
    try simp only [Act.put, List.setIfInBounds_toArray, List.set_cons_zero, List.set_cons_succ]
    refine skipL (i := 37) rfl (by kernel_rfl) (by kernel_rfl) (by kernel_rfl) (fun _ _ _ h => h) (by rfl) (by assumption) ?_
    try simp only [Act.put, List.setIfInBounds_toArray, List.set_cons_zero, List.set_cons_succ]
    refine skipL (i := 38) rfl (by kernel_rfl) (by kernel_rfl) (by kernel_rfl) (fun _ _ _ h => h) (by rfl) (by assumption) ?_
    try simp only [Act.put, List.setIfInBounds_toArray, List.set_cons_zero, List.set_cons_succ]
    refine takeL (i := 39) (v := ?_) rfl (by kernel_rfl) (by kernel_rfl) (by kernel_rfl) (fun _ _ _ h => h) (by rfl) ?_ (by assumption) ?_
    rotate_left
    · (intro w9 hSw; have q0 := ctx_cell0 hSw.1; obtain ⟨q1, q2, q3, q4, q5, q6, q7, q8, q9⟩ := ctx_cells hSw.1; have q11 := dict_cell11 hSw.2.1; clear hSw; go_simp; (try with_reducible rfl))
    try simp only [Act.put, List.setIfInBounds_toArray, List.set_cons_zero, List.set_cons_succ]
    refine takeL (i := 40) (v := ?_) rfl (by kernel_rfl) (by kernel_rfl) (by kernel_rfl) (fun _ _ _ h => h) (by rfl) ?_ (by assumption) ?_
    rotate_left
    · (intro w9 hSw; have q0 := ctx_cell0 hSw.1; obtain ⟨q1, q2, q3, q4, q5, q6, q7, q8, q9⟩ := ctx_cells hSw.1; have q11 := dict_cell11 hSw.2.1; clear hSw; go_simp; (try with_reducible rfl))
    try simp only [Act.put, List.setIfInBounds_toArray, List.set_cons_zero, List.set_cons_succ]
    refine wpAnyH_done (by kernel_rfl) ?_ _
    go_wp2_with fail
    go_ret
    exact ⟨by simp, hHeld.2.2⟩
  cases R4
  · skip
    refine takeL (i := 0) (v := ?_) rfl (by kernel_rfl) (by kernel_rfl) (by kernel_rfl) (fun _ _ _ h => h) (by rfl) ?_ (by assumption) ?_
    rotate_left
    · (intro w9 hSw; have q0 := ctx_cell0 hSw.1; obtain ⟨q1, q2, q3, q4, q5, q6, q7, q8, q9⟩ := ctx_cells hSw.1; have q11 := dict_cell11 hSw.2.1; clear hSw; go_simp; (try with_reducible rfl))
    try simp only [Act.put, List.setIfInBounds_toArray, List.set_cons_zero, List.set_cons_succ]
    refine takeL (i := 1) (v := ?_) rfl (by kernel_rfl) (by kernel_rfl) (by kernel_rfl) (fun _ _ _ h => h) (by rfl) ?_ (by assumption) ?_
    rotate_left
    · (intro w9 hSw; have q0 := ctx_cell0 hSw.1; obtain ⟨q1, q2, q3, q4, q5, q6, q7, q8, q9⟩ := ctx_cells hSw.1; have q11 := dict_cell11 hSw.2.1; clear hSw; go_simp; (try with_reducible rfl))
    try simp only [Act.put, List.setIfInBounds_toArray, List.set_cons_zero, List.set_cons_succ]
    refine takeL (i := 2) (v := ?_) rfl (by kernel_rfl) (by kernel_rfl) (by kernel_rfl) (fun _ _ _ h => h) (by rfl) ?_ (by assumption) ?_
    rotate_left
    · (intro w9 hSw; have q0 := ctx_cell0 hSw.1; obtain ⟨q1, q2, q3, q4, q5, q6, q7, q8, q9⟩ := ctx_cells hSw.1; have q11 := dict_cell11 hSw.2.1; clear hSw; go_simp; (try with_reducible rfl))
    try simp only [Act.put, List.setIfInBounds_toArray, List.set_cons_zero, List.set_cons_succ]
    refine takeL (i := 3) (v := ?_) rfl (by kernel_rfl) (by kernel_rfl) (by kernel_rfl) (fun _ _ _ h => h) (by rfl) ?_ (by assumption) ?_
    rotate_left
    · (intro w9 hSw; have q0 := ctx_cell0 hSw.1; obtain ⟨q1, q2, q3, q4, q5, q6, q7, q8, q9⟩ := ctx_cells hSw.1; have q11 := dict_cell11 hSw.2.1; clear hSw; go_simp; (try with_reducible rfl))
    try simp only [Act.put, List.setIfInBounds_toArray, List.set_cons_zero, List.set_cons_succ]
    refine takeL (i := 4) (v := ?_) rfl (by kernel_rfl) (by kernel_rfl) (by kernel_rfl) (fun _ _ _ h => h) (by rfl) ?_ (by assumption) ?_
    rotate_left
    · (intro w9 hSw; have q0 := ctx_cell0 hSw.1; obtain ⟨q1, q2, q3, q4, q5, q6, q7, q8, q9⟩ := ctx_cells hSw.1; have q11 := dict_cell11 hSw.2.1; clear hSw; go_simp; (try with_reducible rfl))
    try simp only [Act.put, List.setIfInBounds_toArray, List.set_cons_zero, List.set_cons_succ]
    refine takeL (i := 5) (v := ?_) rfl (by kernel_rfl) (by kernel_rfl) (by kernel_rfl) (fun _ _ _ h => h) (by rfl) ?_ (by assumption) ?_
    rotate_left
    · (intro w9 hSw; have q0 := ctx_cell0 hSw.1; obtain ⟨q1, q2, q3, q4, q5, q6, q7, q8, q9⟩ := ctx_cells hSw.1; have q11 := dict_cell11 hSw.2.1; clear hSw; go_simp; (try with_reducible rfl))
    try simp only [Act.put, List.setIfInBounds_toArray, List.set_cons_zero, List.set_cons_succ]
    refine takeL (i := 6) (v := ?_) rfl (by kernel_rfl) (by kernel_rfl) (by kernel_rfl) (fun _ _ _ h => h) (by rfl) ?_ (by assumption) ?_
    rotate_left
    · (intro w9 hSw; have q0 := ctx_cell0 hSw.1; obtain ⟨q1, q2, q3, q4, q5, q6, q7, q8, q9⟩ := ctx_cells hSw.1; have q11 := dict_cell11 hSw.2.1; clear hSw; go_simp; (try with_reducible rfl))
    try simp only [Act.put, List.setIfInBounds_toArray, List.set_cons_zero, List.set_cons_succ]
    refine takeL (i := 7) (v := ?_) rfl (by kernel_rfl) (by kernel_rfl) (by kernel_rfl) (fun _ _ _ h => h) (by rfl) ?_ (by assumption) ?_
    rotate_left
    · (intro w9 hSw; have q0 := ctx_cell0 hSw.1; obtain ⟨q1, q2, q3, q4, q5, q6, q7, q8, q9⟩ := ctx_cells hSw.1; have q11 := dict_cell11 hSw.2.1; clear hSw; go_simp; (try with_reducible rfl))
    try simp only [Act.put, List.setIfInBounds_toArray, List.set_cons_zero, List.set_cons_succ]
    refine callL (i := 8) rfl (by kernel_rfl) (fun Kont hK => ?_)
    go_simp
    refine (HT1.out _ hHeld.2.2).mono ?_; rintro e w1 ⟨rfl, kk⟩
    go_wp2_with fail
    refine hK.out _ _ ?_ (fun hHeld => ?_)
    · (exact ⟨hHeld.1.keeps kk (by simp), hHeld.2.1.keeps kk (by simp), hHeld.2.2.then kk⟩)
    clear hK Kont
    refine takeL (i := 9) (v := ?_) rfl (by kernel_rfl) (by kernel_rfl) (by kernel_rfl) (fun _ _ _ h => h) (by rfl) ?_ (by assumption) ?_
    rotate_left
    · (intro w9 hSw; have q0 := ctx_cell0 hSw.1; obtain ⟨q1, q2, q3, q4, q5, q6, q7, q8, q9⟩ := ctx_cells hSw.1; have q11 := dict_cell11 hSw.2.1; clear hSw; go_simp; (try with_reducible rfl))
    try simp only [Act.put, List.setIfInBounds_toArray, List.set_cons_zero, List.set_cons_succ]
    refine takeL (i := 10) (v := ?_) rfl (by kernel_rfl) (by kernel_rfl) (by kernel_rfl) (fun _ _ _ h => h) (by rfl) ?_ (by assumption) ?_
    rotate_left
    · (intro w9 hSw; have q0 := ctx_cell0 hSw.1; obtain ⟨q1, q2, q3, q4, q5, q6, q7, q8, q9⟩ := ctx_cells hSw.1; have q11 := dict_cell11 hSw.2.1; clear hSw; go_simp; (try with_reducible rfl))
    try simp only [Act.put, List.setIfInBounds_toArray, List.set_cons_zero, List.set_cons_succ]
    refine takeL (i := 11) (v := ?_) rfl (by kernel_rfl) (by kernel_rfl) (by kernel_rfl) (fun _ _ _ h => h) (by rfl) ?_ (by assumption) ?_
    rotate_left
    · (intro w9 hSw; have q0 := ctx_cell0 hSw.1; obtain ⟨q1, q2, q3, q4, q5, q6, q7, q8, q9⟩ := ctx_cells hSw.1; have q11 := dict_cell11 hSw.2.1; clear hSw; go_simp; (try with_reducible rfl))
    try simp only [Act.put, List.setIfInBounds_toArray, List.set_cons_zero, List.set_cons_succ]
    refine takeL (i := 12) (v := ?_) rfl (by kernel_rfl) (by kernel_rfl) (by kernel_rfl) (fun _ _ _ h => h) (by rfl) ?_ (by assumption) ?_
    rotate_left
    · (intro w9 hSw; have q0 := ctx_cell0 hSw.1; obtain ⟨q1, q2, q3, q4, q5, q6, q7, q8, q9⟩ := ctx_cells hSw.1; have q11 := dict_cell11 hSw.2.1; clear hSw; go_simp; (try with_reducible rfl))
    try simp only [Act.put, List.setIfInBounds_toArray, List.set_cons_zero, List.set_cons_succ]
    refine takeL (i := 13) (v := ?_) rfl (by kernel_rfl) (by kernel_rfl) (by kernel_rfl) (fun _ _ _ h => h) (by rfl) ?_ (by assumption) ?_
    rotate_left
    · (intro w9 hSw; have q0 := ctx_cell0 hSw.1; obtain ⟨q1, q2, q3, q4, q5, q6, q7, q8, q9⟩ := ctx_cells hSw.1; have q11 := dict_cell11 hSw.2.1; clear hSw; go_simp; (try with_reducible rfl))
    try simp only [Act.put, List.setIfInBounds_toArray, List.set_cons_zero, List.set_cons_succ]
    refine callL (i := 14) rfl (by kernel_rfl) (fun Kont hK => ?_)
    go_simp
    refine (HT2.out _ hHeld.2.2).mono ?_; rintro e w2 ⟨rfl, kk⟩
    go_wp2_with fail
    refine hK.out _ _ ?_ (fun hHeld => ?_)
    · (exact ⟨hHeld.1.keeps kk (by simp), hHeld.2.1.keeps kk (by simp), hHeld.2.2.then kk⟩)
    clear hK Kont
    refine takeL (i := 15) (v := ?_) rfl (by kernel_rfl) (by kernel_rfl) (by kernel_rfl) (fun _ _ _ h => h) (by rfl) ?_ (by assumption) ?_
    rotate_left
    · (intro w9 hSw; have q0 := ctx_cell0 hSw.1; obtain ⟨q1, q2, q3, q4, q5, q6, q7, q8, q9⟩ := ctx_cells hSw.1; have q11 := dict_cell11 hSw.2.1; clear hSw; go_simp; (try with_reducible rfl))
    try simp only [Act.put, List.setIfInBounds_toArray, List.set_cons_zero, List.set_cons_succ]
    refine takeL (i := 16) (v := ?_) rfl (by kernel_rfl) (by kernel_rfl) (by kernel_rfl) (fun _ _ _ h => h) (by rfl) ?_ (by assumption) ?_
    rotate_left
    · (intro w9 hSw; have q0 := ctx_cell0 hSw.1; obtain ⟨q1, q2, q3, q4, q5, q6, q7, q8, q9⟩ := ctx_cells hSw.1; have q11 := dict_cell11 hSw.2.1; clear hSw; go_simp; (try with_reducible rfl))
    try simp only [Act.put, List.setIfInBounds_toArray, List.set_cons_zero, List.set_cons_succ]
    refine takeL (i := 17) (v := ?_) rfl (by kernel_rfl) (by kernel_rfl) (by kernel_rfl) (fun _ _ _ h => h) (by rfl) ?_ (by assumption) ?_
    rotate_left
    · (intro w9 hSw; have q0 := ctx_cell0 hSw.1; obtain ⟨q1, q2, q3, q4, q5, q6, q7, q8, q9⟩ := ctx_cells hSw.1; have q11 := dict_cell11 hSw.2.1; clear hSw; go_simp; (try with_reducible rfl))
    try simp only [Act.put, List.setIfInBounds_toArray, List.set_cons_zero, List.set_cons_succ]
    refine takeL (i := 18) (v := ?_) rfl (by kernel_rfl) (by kernel_rfl) (by kernel_rfl) (fun _ _ _ h => h) (by rfl) ?_ (by assumption) ?_
    rotate_left
    · (intro w9 hSw; have q0 := ctx_cell0 hSw.1; obtain ⟨q1, q2, q3, q4, q5, q6, q7, q8, q9⟩ := ctx_cells hSw.1; have q11 := dict_cell11 hSw.2.1; clear hSw; go_simp; (try with_reducible rfl))
    try simp only [Act.put, List.setIfInBounds_toArray, List.set_cons_zero, List.set_cons_succ]
    refine takeL (i := 19) (v := ?_) rfl (by kernel_rfl) (by kernel_rfl) (by kernel_rfl) (fun _ _ _ h => h) (by rfl) ?_ (by assumption) ?_
    rotate_left
    · (intro w9 hSw; have q0 := ctx_cell0 hSw.1; obtain ⟨q1, q2, q3, q4, q5, q6, q7, q8, q9⟩ := ctx_cells hSw.1; have q11 := dict_cell11 hSw.2.1; clear hSw; go_simp; (try with_reducible rfl))
    try simp only [Act.put, List.setIfInBounds_toArray, List.set_cons_zero, List.set_cons_succ]
    refine callL (i := 20) rfl (by kernel_rfl) (fun Kont hK => ?_)
    go_simp
    refine (HT3.out _ hHeld.2.2).mono ?_; rintro e w3 ⟨rfl, kk⟩
    go_wp2_with fail
    refine hK.out _ _ ?_ (fun hHeld => ?_)
    · (exact ⟨hHeld.1.keeps kk (by simp), hHeld.2.1.keeps kk (by simp), hHeld.2.2.then kk⟩)
    clear hK Kont
    refine takeL (i := 21) (v := ?_) rfl (by kernel_rfl) (by kernel_rfl) (by kernel_rfl) (fun _ _ _ h => h) (by rfl) ?_ (by assumption) ?_
    rotate_left
    · (intro w9 hSw; have q0 := ctx_cell0 hSw.1; obtain ⟨q1, q2, q3, q4, q5, q6, q7, q8, q9⟩ := ctx_cells hSw.1; have q11 := dict_cell11 hSw.2.1; clear hSw; go_simp; (try with_reducible rfl))
    try simp only [Act.put, List.setIfInBounds_toArray, List.set_cons_zero, List.set_cons_succ]
    refine takeL (i := 22) (v := ?_) rfl (by kernel_rfl) (by kernel_rfl) (by kernel_rfl) (fun _ _ _ h => h) (by rfl) ?_ (by assumption) ?_
    rotate_left
    · (intro w9 hSw; have q0 := ctx_cell0 hSw.1; obtain ⟨q1, q2, q3, q4, q5, q6, q7, q8, q9⟩ := ctx_cells hSw.1; have q11 := dict_cell11 hSw.2.1; clear hSw; go_simp; (try with_reducible rfl))
    try simp only [Act.put, List.setIfInBounds_toArray, List.set_cons_zero, List.set_cons_succ]
    refine takeL (i := 23) (v := ?_) rfl (by kernel_rfl) (by kernel_rfl) (by kernel_rfl) (fun _ _ _ h => h) (by rfl) ?_ (by assumption) ?_
    rotate_left
    · (intro w9 hSw; have q0 := ctx_cell0 hSw.1; obtain ⟨q1, q2, q3, q4, q5, q6, q7, q8, q9⟩ := ctx_cells hSw.1; have q11 := dict_cell11 hSw.2.1; clear hSw; go_simp; (try with_reducible rfl))
    try simp only [Act.put, List.setIfInBounds_toArray, List.set_cons_zero, List.set_cons_succ]
    refine takeL (i := 24) (v := ?_) rfl (by kernel_rfl) (by kernel_rfl) (by kernel_rfl) (fun _ _ _ h => h) (by rfl) ?_ (by assumption) ?_
    rotate_left
    · (intro w9 hSw; have q0 := ctx_cell0 hSw.1; obtain ⟨q1, q2, q3, q4, q5, q6, q7, q8, q9⟩ := ctx_cells hSw.1; have q11 := dict_cell11 hSw.2.1; clear hSw; go_simp; (try with_reducible rfl))
    try simp only [Act.put, List.setIfInBounds_toArray, List.set_cons_zero, List.set_cons_succ]
    refine callL (i := 25) rfl (by kernel_rfl) (fun Kont hK => ?_)
    go_simp
    refine (first_any _).mono ?_; rintro e w4 ⟨rfl, kk⟩
    go_wp2_with fail
    refine hK.out _ _ ?_ (fun hHeld => ?_)
    · (exact ⟨hHeld.1.keeps kk (by simp), hHeld.2.1.keeps kk (by simp), hHeld.2.2.then kk⟩)
    clear hK Kont
    refine takeL (i := 26) (v := ?_) rfl (by kernel_rfl) (by kernel_rfl) (by kernel_rfl) (fun _ _ _ h => h) (by rfl) ?_ (by assumption) ?_
    rotate_left
    · (intro w9 hSw; have q0 := ctx_cell0 hSw.1; obtain ⟨q1, q2, q3, q4, q5, q6, q7, q8, q9⟩ := ctx_cells hSw.1; have q11 := dict_cell11 hSw.2.1; clear hSw; go_simp; (try with_reducible rfl))
    try simp only [Act.put, List.setIfInBounds_toArray, List.set_cons_zero, List.set_cons_succ]
    refine takeL (i := 27) (v := ?_) rfl (by kernel_rfl) (by kernel_rfl) (by kernel_rfl) (fun _ _ _ h => h) (by rfl) ?_ (by assumption) ?_
    rotate_left
    · (intro w9 hSw; have q0 := ctx_cell0 hSw.1; obtain ⟨q1, q2, q3, q4, q5, q6, q7, q8, q9⟩ := ctx_cells hSw.1; have q11 := dict_cell11 hSw.2.1; clear hSw; go_simp; (try with_reducible rfl))
    try simp only [Act.put, List.setIfInBounds_toArray, List.set_cons_zero, List.set_cons_succ]
    refine takeL (i := 28) (v := ?_) rfl (by kernel_rfl) (by kernel_rfl) (by kernel_rfl) (fun _ _ _ h => h) (by rfl) ?_ (by assumption) ?_
    rotate_left
    · (intro w9 hSw; have q0 := ctx_cell0 hSw.1; obtain ⟨q1, q2, q3, q4, q5, q6, q7, q8, q9⟩ := ctx_cells hSw.1; have q11 := dict_cell11 hSw.2.1; clear hSw; go_simp; (try with_reducible rfl))
    try simp only [Act.put, List.setIfInBounds_toArray, List.set_cons_zero, List.set_cons_succ]
    refine skipL (i := 29) rfl (by kernel_rfl) (by kernel_rfl) (by kernel_rfl) (fun _ _ _ h => h) (by rfl) (by assumption) ?_
    try simp only [Act.put, List.setIfInBounds_toArray, List.set_cons_zero, List.set_cons_succ]
    refine skipL (i := 30) rfl (by kernel_rfl) (by kernel_rfl) (by kernel_rfl) (fun _ _ _ h => h) (by rfl) (by assumption) ?_
    try simp only [Act.put, List.setIfInBounds_toArray, List.set_cons_zero, List.set_cons_succ]
    refine callL (i := 31) rfl (by kernel_rfl) (fun Kont hK => ?_)
    go_simp
    refine hK.out _ _ ?_ (fun hHeld => ?_)
    · (exact hHeld)
    clear hK Kont
    refine skipL (i := 32) rfl (by kernel_rfl) (by kernel_rfl) (by kernel_rfl) (fun _ _ _ h => h) (by rfl) (by assumption) ?_
    try simp only [Act.put, List.setIfInBounds_toArray, List.set_cons_zero, List.set_cons_succ]
    refine takeL (i := 33) (v := ?_) rfl (by kernel_rfl) (by kernel_rfl) (by kernel_rfl) (fun _ _ _ h => h) (by rfl) ?_ (by assumption) ?_
    rotate_left
    · (intro w9 hSw; have q0 := ctx_cell0 hSw.1; obtain ⟨q1, q2, q3, q4, q5, q6, q7, q8, q9⟩ := ctx_cells hSw.1; have q11 := dict_cell11 hSw.2.1; clear hSw; go_simp; (try with_reducible rfl))
    try simp only [Act.put, List.setIfInBounds_toArray, List.set_cons_zero, List.set_cons_succ]
    refine takeL (i := 34) (v := ?_) rfl (by kernel_rfl) (by kernel_rfl) (by kernel_rfl) (fun _ _ _ h => h) (by rfl) ?_ (by assumption) ?_
    rotate_left
    · (intro w9 hSw; have q0 := ctx_cell0 hSw.1; obtain ⟨q1, q2, q3, q4, q5, q6, q7, q8, q9⟩ := ctx_cells hSw.1; have q11 := dict_cell11 hSw.2.1; clear hSw; go_simp; (try with_reducible rfl))
    try simp only [Act.put, List.setIfInBounds_toArray, List.set_cons_zero, List.set_cons_succ]
    refine skipL (i := 35) rfl (by kernel_rfl) (by kernel_rfl) (by kernel_rfl) (fun _ _ _ h => h) (by rfl) (by assumption) ?_
    try simp only [Act.put, List.setIfInBounds_toArray, List.set_cons_zero, List.set_cons_succ]
    refine skipL (i := 36) rfl (by kernel_rfl) (by kernel_rfl) (by kernel_rfl) (fun _ _ _ h => h) (by rfl) (by assumption) ?_
    try simp only [Act.put, List.setIfInBounds_toArray, List.set_cons_zero, List.set_cons_succ]
    refine skipL (i := 37) rfl (by kernel_rfl) (by kernel_rfl) (by kernel_rfl) (fun _ _ _ h => h) (by rfl) (by assumption) ?_
    try simp only [Act.put, List.setIfInBounds_toArray, List.set_cons_zero, List.set_cons_succ]
    refine skipL (i := 38) rfl (by kernel_rfl) (by kernel_rfl) (by kernel_rfl) (fun _ _ _ h => h) (by rfl) (by assumption) ?_
    try simp only [Act.put, List.setIfInBounds_toArray, List.set_cons_zero, List.set_cons_succ]
    refine takeL (i := 39) (v := ?_) rfl (by kernel_rfl) (by kernel_rfl) (by kernel_rfl) (fun _ _ _ h => h) (by rfl) ?_ (by assumption) ?_
    rotate_left
    · (intro w9 hSw; have q0 := ctx_cell0 hSw.1; obtain ⟨q1, q2, q3, q4, q5, q6, q7, q8, q9⟩ := ctx_cells hSw.1; have q11 := dict_cell11 hSw.2.1; clear hSw; go_simp; (try with_reducible rfl))
    try simp only [Act.put, List.setIfInBounds_toArray, List.set_cons_zero, List.set_cons_succ]
    refine takeL (i := 40) (v := ?_) rfl (by kernel_rfl) (by kernel_rfl) (by kernel_rfl) (fun _ _ _ h => h) (by rfl) ?_ (by assumption) ?_
    rotate_left
    · (intro w9 hSw; have q0 := ctx_cell0 hSw.1; obtain ⟨q1, q2, q3, q4, q5, q6, q7, q8, q9⟩ := ctx_cells hSw.1; have q11 := dict_cell11 hSw.2.1; clear hSw; go_simp; (try with_reducible rfl))
    try simp only [Act.put, List.setIfInBounds_toArray, List.set_cons_zero, List.set_cons_succ]
    refine wpAnyH_done (by kernel_rfl) ?_ _
    go_wp2_with fail
    go_ret
    exact ⟨by simp, hHeld.2.2⟩
  cases R5
  · skip
    refine takeL (i := 0) (v := ?_) rfl (by kernel_rfl) (by kernel_rfl) (by kernel_rfl) (fun _ _ _ h => h) (by rfl) ?_ (by assumption) ?_
    rotate_left
    · (intro w9 hSw; have q0 := ctx_cell0 hSw.1; obtain ⟨q1, q2, q3, q4, q5, q6, q7, q8, q9⟩ := ctx_cells hSw.1; have q11 := dict_cell11 hSw.2.1; clear hSw; go_simp; (try with_reducible rfl))
    try simp only [Act.put, List.setIfInBounds_toArray, List.set_cons_zero, List.set_cons_succ]
    refine takeL (i := 1) (v := ?_) rfl (by kernel_rfl) (by kernel_rfl) (by kernel_rfl) (fun _ _ _ h => h) (by rfl) ?_ (by assumption) ?_
    rotate_left
    · (intro w9 hSw; have q0 := ctx_cell0 hSw.1; obtain ⟨q1, q2, q3, q4, q5, q6, q7, q8, q9⟩ := ctx_cells hSw.1; have q11 := dict_cell11 hSw.2.1; clear hSw; go_simp; (try with_reducible rfl))
    try simp only [Act.put, List.setIfInBounds_toArray, List.set_cons_zero, List.set_cons_succ]
    refine takeL (i := 2) (v := ?_) rfl (by kernel_rfl) (by kernel_rfl) (by kernel_rfl) (fun _ _ _ h => h) (by rfl) ?_ (by assumption) ?_
    rotate_left
    · (intro w9 hSw; have q0 := ctx_cell0 hSw.1; obtain ⟨q1, q2, q3, q4, q5, q6, q7, q8, q9⟩ := ctx_cells hSw.1; have q11 := dict_cell11 hSw.2.1; clear hSw; go_simp; (try with_reducible rfl))
    try simp only [Act.put, List.setIfInBounds_toArray, List.set_cons_zero, List.set_cons_succ]
    refine takeL (i := 3) (v := ?_) rfl (by kernel_rfl) (by kernel_rfl) (by kernel_rfl) (fun _ _ _ h => h) (by rfl) ?_ (by assumption) ?_
    rotate_left
    · (intro w9 hSw; have q0 := ctx_cell0 hSw.1; obtain ⟨q1, q2, q3, q4, q5, q6, q7, q8, q9⟩ := ctx_cells hSw.1; have q11 := dict_cell11 hSw.2.1; clear hSw; go_simp; (try with_reducible rfl))
    try simp only [Act.put, List.setIfInBounds_toArray, List.set_cons_zero, List.set_cons_succ]
    refine takeL (i := 4) (v := ?_) rfl (by kernel_rfl) (by kernel_rfl) (by kernel_rfl) (fun _ _ _ h => h) (by rfl) ?_ (by assumption) ?_
    rotate_left
    · (intro w9 hSw; have q0 := ctx_cell0 hSw.1; obtain ⟨q1, q2, q3, q4, q5, q6, q7, q8, q9⟩ := ctx_cells hSw.1; have q11 := dict_cell11 hSw.2.1; clear hSw; go_simp; (try with_reducible rfl))
    try simp only [Act.put, List.setIfInBounds_toArray, List.set_cons_zero, List.set_cons_succ]
    refine takeL (i := 5) (v := ?_) rfl (by kernel_rfl) (by kernel_rfl) (by kernel_rfl) (fun _ _ _ h => h) (by rfl) ?_ (by assumption) ?_
    rotate_left
    · (intro w9 hSw; have q0 := ctx_cell0 hSw.1; obtain ⟨q1, q2, q3, q4, q5, q6, q7, q8, q9⟩ := ctx_cells hSw.1; have q11 := dict_cell11 hSw.2.1; clear hSw; go_simp; (try with_reducible rfl))
    try simp only [Act.put, List.setIfInBounds_toArray, List.set_cons_zero, List.set_cons_succ]
    refine takeL (i := 6) (v := ?_) rfl (by kernel_rfl) (by kernel_rfl) (by kernel_rfl) (fun _ _ _ h => h) (by rfl) ?_ (by assumption) ?_
    rotate_left
    · (intro w9 hSw; have q0 := ctx_cell0 hSw.1; obtain ⟨q1, q2, q3, q4, q5, q6, q7, q8, q9⟩ := ctx_cells hSw.1; have q11 := dict_cell11 hSw.2.1; clear hSw; go_simp; (try with_reducible rfl))
    try simp only [Act.put, List.setIfInBounds_toArray, List.set_cons_zero, List.set_cons_succ]
    refine takeL (i := 7) (v := ?_) rfl (by kernel_rfl) (by kernel_rfl) (by kernel_rfl) (fun _ _ _ h => h) (by rfl) ?_ (by assumption) ?_
    rotate_left
    · (intro w9 hSw; have q0 := ctx_cell0 hSw.1; obtain ⟨q1, q2, q3, q4, q5, q6, q7, q8, q9⟩ := ctx_cells hSw.1; have q11 := dict_cell11 hSw.2.1; clear hSw; go_simp; (try with_reducible rfl))
    try simp only [Act.put, List.setIfInBounds_toArray, List.set_cons_zero, List.set_cons_succ]
    refine callL (i := 8) rfl (by kernel_rfl) (fun Kont hK => ?_)
    go_simp
    refine (HT1.out _ hHeld.2.2).mono ?_; rintro e w1 ⟨rfl, kk⟩
    go_wp2_with fail
    refine hK.out _ _ ?_ (fun hHeld => ?_)
    · (exact ⟨hHeld.1.keeps kk (by simp), hHeld.2.1.keeps kk (by simp), hHeld.2.2.then kk⟩)
    clear hK Kont
    refine takeL (i := 9) (v := ?_) rfl (by kernel_rfl) (by kernel_rfl) (by kernel_rfl) (fun _ _ _ h => h) (by rfl) ?_ (by assumption) ?_
    rotate_left
    · (intro w9 hSw; have q0 := ctx_cell0 hSw.1; obtain ⟨q1, q2, q3, q4, q5, q6, q7, q8, q9⟩ := ctx_cells hSw.1; have q11 := dict_cell11 hSw.2.1; clear hSw; go_simp; (try with_reducible rfl))
    try simp only [Act.put, List.setIfInBounds_toArray, List.set_cons_zero, List.set_cons_succ]
    refine takeL (i := 10) (v := ?_) rfl (by kernel_rfl) (by kernel_rfl) (by kernel_rfl) (fun _ _ _ h => h) (by rfl) ?_ (by assumption) ?_
    rotate_left
    · (intro w9 hSw; have q0 := ctx_cell0 hSw.1; obtain ⟨q1, q2, q3, q4, q5, q6, q7, q8, q9⟩ := ctx_cells hSw.1; have q11 := dict_cell11 hSw.2.1; clear hSw; go_simp; (try with_reducible rfl))
    try simp only [Act.put, List.setIfInBounds_toArray, List.set_cons_zero, List.set_cons_succ]
    refine takeL (i := 11) (v := ?_) rfl (by kernel_rfl) (by kernel_rfl) (by kernel_rfl) (fun _ _ _ h => h) (by rfl) ?_ (by assumption) ?_
    rotate_left
    · (intro w9 hSw; have q0 := ctx_cell0 hSw.1; obtain ⟨q1, q2, q3, q4, q5, q6, q7, q8, q9⟩ := ctx_cells hSw.1; have q11 := dict_cell11 hSw.2.1; clear hSw; go_simp; (try with_reducible rfl))
    try simp only [Act.put, List.setIfInBounds_toArray, List.set_cons_zero, List.set_cons_succ]
    refine takeL (i := 12) (v := ?_) rfl (by kernel_rfl) (by kernel_rfl) (by kernel_rfl) (fun _ _ _ h => h) (by rfl) ?_ (by assumption) ?_
    rotate_left
    · (intro w9 hSw; have q0 := ctx_cell0 hSw.1; obtain ⟨q1, q2, q3, q4, q5, q6, q7, q8, q9⟩ := ctx_cells hSw.1; have q11 := dict_cell11 hSw.2.1; clear hSw; go_simp; (try with_reducible rfl))
    try simp only [Act.put, List.setIfInBounds_toArray, List.set_cons_zero, List.set_cons_succ]
    refine takeL (i := 13) (v := ?_) rfl (by kernel_rfl) (by kernel_rfl) (by kernel_rfl) (fun _ _ _ h => h) (by rfl) ?_ (by assumption) ?_
    rotate_left
    · (intro w9 hSw; have q0 := ctx_cell0 hSw.1; obtain ⟨q1, q2, q3, q4, q5, q6, q7, q8, q9⟩ := ctx_cells hSw.1; have q11 := dict_cell11 hSw.2.1; clear hSw; go_simp; (try with_reducible rfl))
    try simp only [Act.put, List.setIfInBounds_toArray, List.set_cons_zero, List.set_cons_succ]
    refine callL (i := 14) rfl (by kernel_rfl) (fun Kont hK => ?_)
    go_simp
    refine (HT2.out _ hHeld.2.2).mono ?_; rintro e w2 ⟨rfl, kk⟩
    go_wp2_with fail
    refine hK.out _ _ ?_ (fun hHeld => ?_)
    · (exact ⟨hHeld.1.keeps kk (by simp), hHeld.2.1.keeps kk (by simp), hHeld.2.2.then kk⟩)
    clear hK Kont
    refine takeL (i := 15) (v := ?_) rfl (by kernel_rfl) (by kernel_rfl) (by kernel_rfl) (fun _ _ _ h => h) (by rfl) ?_ (by assumption) ?_
    rotate_left
    · (intro w9 hSw; have q0 := ctx_cell0 hSw.1; obtain ⟨q1, q2, q3, q4, q5, q6, q7, q8, q9⟩ := ctx_cells hSw.1; have q11 := dict_cell11 hSw.2.1; clear hSw; go_simp; (try with_reducible rfl))
    try simp only [Act.put, List.setIfInBounds_toArray, List.set_cons_zero, List.set_cons_succ]
    refine takeL (i := 16) (v := ?_) rfl (by kernel_rfl) (by kernel_rfl) (by kernel_rfl) (fun _ _ _ h => h) (by rfl) ?_ (by assumption) ?_
    rotate_left
    · (intro w9 hSw; have q0 := ctx_cell0 hSw.1; obtain ⟨q1, q2, q3, q4, q5, q6, q7, q8, q9⟩ := ctx_cells hSw.1; have q11 := dict_cell11 hSw.2.1; clear hSw; go_simp; (try with_reducible rfl))
    try simp only [Act.put, List.setIfInBounds_toArray, List.set_cons_zero, List.set_cons_succ]
    refine takeL (i := 17) (v := ?_) rfl (by kernel_rfl) (by kernel_rfl) (by kernel_rfl) (fun _ _ _ h => h) (by rfl) ?_ (by assumption) ?_
    rotate_left
    · (intro w9 hSw; have q0 := ctx_cell0 hSw.1; obtain ⟨q1, q2, q3, q4, q5, q6, q7, q8, q9⟩ := ctx_cells hSw.1; have q11 := dict_cell11 hSw.2.1; clear hSw; go_simp; (try with_reducible rfl))
    try simp only [Act.put, List.setIfInBounds_toArray, List.set_cons_zero, List.set_cons_succ]
    refine takeL (i := 18) (v := ?_) rfl (by kernel_rfl) (by kernel_rfl) (by kernel_rfl) (fun _ _ _ h => h) (by rfl) ?_ (by assumption) ?_
    rotate_left
    · (intro w9 hSw; have q0 := ctx_cell0 hSw.1; obtain ⟨q1, q2, q3, q4, q5, q6, q7, q8, q9⟩ := ctx_cells hSw.1; have q11 := dict_cell11 hSw.2.1; clear hSw; go_simp; (try with_reducible rfl))
    try simp only [Act.put, List.setIfInBounds_toArray, List.set_cons_zero, List.set_cons_succ]
    refine takeL (i := 19) (v := ?_) rfl (by kernel_rfl) (by kernel_rfl) (by kernel_rfl) (fun _ _ _ h => h) (by rfl) ?_ (by assumption) ?_
    rotate_left
    · (intro w9 hSw; have q0 := ctx_cell0 hSw.1; obtain ⟨q1, q2, q3, q4, q5, q6, q7, q8, q9⟩ := ctx_cells hSw.1; have q11 := dict_cell11 hSw.2.1; clear hSw; go_simp; (try with_reducible rfl))
    try simp only [Act.put, List.setIfInBounds_toArray, List.set_cons_zero, List.set_cons_succ]
    refine callL (i := 20) rfl (by kernel_rfl) (fun Kont hK => ?_)
    go_simp
    refine (HT3.out _ hHeld.2.2).mono ?_; rintro e w3 ⟨rfl, kk⟩
    go_wp2_with fail
    refine hK.out _ _ ?_ (fun hHeld => ?_)
    · (exact ⟨hHeld.1.keeps kk (by simp), hHeld.2.1.keeps kk (by simp), hHeld.2.2.then kk⟩)
    clear hK Kont
    refine takeL (i := 21) (v := ?_) rfl (by kernel_rfl) (by kernel_rfl) (by kernel_rfl) (fun _ _ _ h => h) (by rfl) ?_ (by assumption) ?_
    rotate_left
    · (intro w9 hSw; have q0 := ctx_cell0 hSw.1; obtain ⟨q1, q2, q3, q4, q5, q6, q7, q8, q9⟩ := ctx_cells hSw.1; have q11 := dict_cell11 hSw.2.1; clear hSw; go_simp; (try with_reducible rfl))
    try simp only [Act.put, List.setIfInBounds_toArray, List.set_cons_zero, List.set_cons_succ]
    refine takeL (i := 22) (v := ?_) rfl (by kernel_rfl) (by kernel_rfl) (by kernel_rfl) (fun _ _ _ h => h) (by rfl) ?_ (by assumption) ?_
    rotate_left
    · (intro w9 hSw; have q0 := ctx_cell0 hSw.1; obtain ⟨q1, q2, q3, q4, q5, q6, q7, q8, q9⟩ := ctx_cells hSw.1; have q11 := dict_cell11 hSw.2.1; clear hSw; go_simp; (try with_reducible rfl))
    try simp only [Act.put, List.setIfInBounds_toArray, List.set_cons_zero, List.set_cons_succ]
    refine takeL (i := 23) (v := ?_) rfl (by kernel_rfl) (by kernel_rfl) (by kernel_rfl) (fun _ _ _ h => h) (by rfl) ?_ (by assumption) ?_
    rotate_left
    · (intro w9 hSw; have q0 := ctx_cell0 hSw.1; obtain ⟨q1, q2, q3, q4, q5, q6, q7, q8, q9⟩ := ctx_cells hSw.1; have q11 := dict_cell11 hSw.2.1; clear hSw; go_simp; (try with_reducible rfl))
    try simp only [Act.put, List.setIfInBounds_toArray, List.set_cons_zero, List.set_cons_succ]
    refine takeL (i := 24) (v := ?_) rfl (by kernel_rfl) (by kernel_rfl) (by kernel_rfl) (fun _ _ _ h => h) (by rfl) ?_ (by assumption) ?_
    rotate_left
    · (intro w9 hSw; have q0 := ctx_cell0 hSw.1; obtain ⟨q1, q2, q3, q4, q5, q6, q7, q8, q9⟩ := ctx_cells hSw.1; have q11 := dict_cell11 hSw.2.1; clear hSw; go_simp; (try with_reducible rfl))
    try simp only [Act.put, List.setIfInBounds_toArray, List.set_cons_zero, List.set_cons_succ]
    refine callL (i := 25) rfl (by kernel_rfl) (fun Kont hK => ?_)
    go_simp
    refine (first_any _).mono ?_; rintro e w4 ⟨rfl, kk⟩
    go_wp2_with fail
    refine hK.out _ _ ?_ (fun hHeld => ?_)
    · (exact ⟨hHeld.1.keeps kk (by simp), hHeld.2.1.keeps kk (by simp), hHeld.2.2.then kk⟩)
    clear hK Kont
    refine takeL (i := 26) (v := ?_) rfl (by kernel_rfl) (by kernel_rfl) (by kernel_rfl) (fun _ _ _ h => h) (by rfl) ?_ (by assumption) ?_
    rotate_left
    · (intro w9 hSw; have q0 := ctx_cell0 hSw.1; obtain ⟨q1, q2, q3, q4, q5, q6, q7, q8, q9⟩ := ctx_cells hSw.1; have q11 := dict_cell11 hSw.2.1; clear hSw; go_simp; (try with_reducible rfl))
    try simp only [Act.put, List.setIfInBounds_toArray, List.set_cons_zero, List.set_cons_succ]
    refine takeL (i := 27) (v := ?_) rfl (by kernel_rfl) (by kernel_rfl) (by kernel_rfl) (fun _ _ _ h => h) (by rfl) ?_ (by assumption) ?_
    rotate_left
    · (intro w9 hSw; have q0 := ctx_cell0 hSw.1; obtain ⟨q1, q2, q3, q4, q5, q6, q7, q8, q9⟩ := ctx_cells hSw.1; have q11 := dict_cell11 hSw.2.1; clear hSw; go_simp; (try with_reducible rfl))
    try simp only [Act.put, List.setIfInBounds_toArray, List.set_cons_zero, List.set_cons_succ]
    refine takeL (i := 28) (v := ?_) rfl (by kernel_rfl) (by kernel_rfl) (by kernel_rfl) (fun _ _ _ h => h) (by rfl) ?_ (by assumption) ?_
    rotate_left
    · (intro w9 hSw; have q0 := ctx_cell0 hSw.1; obtain ⟨q1, q2, q3, q4, q5, q6, q7, q8, q9⟩ := ctx_cells hSw.1; have q11 := dict_cell11 hSw.2.1; clear hSw; go_simp; (try with_reducible rfl))
    try simp only [Act.put, List.setIfInBounds_toArray, List.set_cons_zero, List.set_cons_succ]
    refine takeL (i := 29) (v := ?_) rfl (by kernel_rfl) (by kernel_rfl) (by kernel_rfl) (fun _ _ _ h => h) (by rfl) ?_ (by assumption) ?_
    rotate_left
    · (intro w9 hSw; have q0 := ctx_cell0 hSw.1; obtain ⟨q1, q2, q3, q4, q5, q6, q7, q8, q9⟩ := ctx_cells hSw.1; have q11 := dict_cell11 hSw.2.1; clear hSw; go_simp; (try with_reducible rfl))
    try simp only [Act.put, List.setIfInBounds_toArray, List.set_cons_zero, List.set_cons_succ]
    refine takeL (i := 30) (v := ?_) rfl (by kernel_rfl) (by kernel_rfl) (by kernel_rfl) (fun _ _ _ h => h) (by rfl) ?_ (by assumption) ?_
    rotate_left
    · (intro w9 hSw; have q0 := ctx_cell0 hSw.1; obtain ⟨q1, q2, q3, q4, q5, q6, q7, q8, q9⟩ := ctx_cells hSw.1; have q11 := dict_cell11 hSw.2.1; clear hSw; go_simp; (try with_reducible rfl))
    try simp only [Act.put, List.setIfInBounds_toArray, List.set_cons_zero, List.set_cons_succ]
    refine callL (i := 31) rfl (by kernel_rfl) (fun Kont hK => ?_)
    go_simp
    refine (HM.out _ hHeld.2.2).mono ?_; rintro e w5 ⟨rfl, kk⟩
    go_wp2_with fail
    refine hK.out _ _ ?_ (fun hHeld => ?_)
    · (exact ⟨hHeld.1.keeps kk (by simp), hHeld.2.1.keeps kk (by simp), hHeld.2.2.then kk⟩)
    clear hK Kont
    refine takeL (i := 32) (v := ?_) rfl (by kernel_rfl) (by kernel_rfl) (by kernel_rfl) (fun _ _ _ h => h) (by rfl) ?_ (by assumption) ?_
    rotate_left
    · (intro w9 hSw; have q0 := ctx_cell0 hSw.1; obtain ⟨q1, q2, q3, q4, q5, q6, q7, q8, q9⟩ := ctx_cells hSw.1; have q11 := dict_cell11 hSw.2.1; clear hSw; go_simp; (try with_reducible rfl))
    try simp only [Act.put, List.setIfInBounds_toArray, List.set_cons_zero, List.set_cons_succ]
    refine takeL (i := 33) (v := ?_) rfl (by kernel_rfl) (by kernel_rfl) (by kernel_rfl) (fun _ _ _ h => h) (by rfl) ?_ (by assumption) ?_
    rotate_left
    · (intro w9 hSw; have q0 := ctx_cell0 hSw.1; obtain ⟨q1, q2, q3, q4, q5, q6, q7, q8, q9⟩ := ctx_cells hSw.1; have q11 := dict_cell11 hSw.2.1; clear hSw; go_simp; (try with_reducible rfl))
    try simp only [Act.put, List.setIfInBounds_toArray, List.set_cons_zero, List.set_cons_succ]
    refine takeL (i := 34) (v := ?_) rfl (by kernel_rfl) (by kernel_rfl) (by kernel_rfl) (fun _ _ _ h => h) (by rfl) ?_ (by assumption) ?_
    rotate_left
    · (intro w9 hSw; have q0 := ctx_cell0 hSw.1; obtain ⟨q1, q2, q3, q4, q5, q6, q7, q8, q9⟩ := ctx_cells hSw.1; have q11 := dict_cell11 hSw.2.1; clear hSw; go_simp; (try with_reducible rfl))
    try simp only [Act.put, List.setIfInBounds_toArray, List.set_cons_zero, List.set_cons_succ]
    refine takeL (i := 35) (v := ?_) rfl (by kernel_rfl) (by kernel_rfl) (by kernel_rfl) (fun _ _ _ h => h) (by rfl) ?_ (by assumption) ?_
    rotate_left
    · (intro w9 hSw; have q0 := ctx_cell0 hSw.1; obtain ⟨q1, q2, q3, q4, q5, q6, q7, q8, q9⟩ := ctx_cells hSw.1; have q11 := dict_cell11 hSw.2.1; clear hSw; go_simp; (try with_reducible rfl))
    try simp only [Act.put, List.setIfInBounds_toArray, List.set_cons_zero, List.set_cons_succ]
    refine takeL (i := 36) (v := ?_) rfl (by kernel_rfl) (by kernel_rfl) (by kernel_rfl) (fun _ _ _ h => h) (by rfl) ?_ (by assumption) ?_
    rotate_left
    · (intro w9 hSw; have q0 := ctx_cell0 hSw.1; obtain ⟨q1, q2, q3, q4, q5, q6, q7, q8, q9⟩ := ctx_cells hSw.1; have q11 := dict_cell11 hSw.2.1; clear hSw; go_simp; (try with_reducible rfl))
    try simp only [Act.put, List.setIfInBounds_toArray, List.set_cons_zero, List.set_cons_succ]
    refine takeL (i := 37) (v := ?_) rfl (by kernel_rfl) (by kernel_rfl) (by kernel_rfl) (fun _ _ _ h => h) (by rfl) ?_ (by assumption) ?_
    rotate_left
    · (intro w9 hSw; have q0 := ctx_cell0 hSw.1; obtain ⟨q1, q2, q3, q4, q5, q6, q7, q8, q9⟩ := ctx_cells hSw.1; have q11 := dict_cell11 hSw.2.1; clear hSw; go_simp; (try with_reducible rfl))
    try simp only [Act.put, List.setIfInBounds_toArray, List.set_cons_zero, List.set_cons_succ]
    refine takeL (i := 38) (v := ?_) rfl (by kernel_rfl) (by kernel_rfl) (by kernel_rfl) (fun _ _ _ h => h) (by rfl) ?_ (by assumption) ?_
    rotate_left
    · (intro w9 hSw; have q0 := ctx_cell0 hSw.1; obtain ⟨q1, q2, q3, q4, q5, q6, q7, q8, q9⟩ := ctx_cells hSw.1; have q11 := dict_cell11 hSw.2.1; clear hSw; go_simp; (try with_reducible rfl))
    try simp only [Act.put, List.setIfInBounds_toArray, List.set_cons_zero, List.set_cons_succ]
    refine takeL (i := 39) (v := ?_) rfl (by kernel_rfl) (by kernel_rfl) (by kernel_rfl) (fun _ _ _ h => h) (by rfl) ?_ (by assumption) ?_
    rotate_left
    · (intro w9 hSw; have q0 := ctx_cell0 hSw.1; obtain ⟨q1, q2, q3, q4, q5, q6, q7, q8, q9⟩ := ctx_cells hSw.1; have q11 := dict_cell11 hSw.2.1; clear hSw; go_simp; (try with_reducible rfl))
    try simp only [Act.put, List.setIfInBounds_toArray, List.set_cons_zero, List.set_cons_succ]
    refine takeL (i := 40) (v := ?_) rfl (by kernel_rfl) (by kernel_rfl) (by kernel_rfl) (fun _ _ _ h => h) (by rfl) ?_ (by assumption) ?_
    rotate_left
    · (intro w9 hSw; have q0 := ctx_cell0 hSw.1; obtain ⟨q1, q2, q3, q4, q5, q6, q7, q8, q9⟩ := ctx_cells hSw.1; have q11 := dict_cell11 hSw.2.1; clear hSw; go_simp; (try with_reducible rfl))
    try simp only [Act.put, List.setIfInBounds_toArray, List.set_cons_zero, List.set_cons_succ]
    refine wpAnyH_done (by kernel_rfl) ?_ _
    go_wp2_with fail
    go_ret
    exact ⟨by simp, hHeld.2.2⟩
  · skip
    refine takeL (i := 0) (v := ?_) rfl (by kernel_rfl) (by kernel_rfl) (by kernel_rfl) (fun _ _ _ h => h) (by rfl) ?_ (by assumption) ?_
    rotate_left
    · (intro w9 hSw; have q0 := ctx_cell0 hSw.1; obtain ⟨q1, q2, q3, q4, q5, q6, q7, q8, q9⟩ := ctx_cells hSw.1; have q11 := dict_cell11 hSw.2.1; clear hSw; go_simp; (try with_reducible rfl))
    try simp only [Act.put, List.setIfInBounds_toArray, List.set_cons_zero, List.set_cons_succ]
    refine takeL (i := 1) (v := ?_) rfl (by kernel_rfl) (by kernel_rfl) (by kernel_rfl) (fun _ _ _ h => h) (by rfl) ?_ (by assumption) ?_
    rotate_left
    · (intro w9 hSw; have q0 := ctx_cell0 hSw.1; obtain ⟨q1, q2, q3, q4, q5, q6, q7, q8, q9⟩ := ctx_cells hSw.1; have q11 := dict_cell11 hSw.2.1; clear hSw; go_simp; (try with_reducible rfl))
    try simp only [Act.put, List.setIfInBounds_toArray, List.set_cons_zero, List.set_cons_succ]
    refine takeL (i := 2) (v := ?_) rfl (by kernel_rfl) (by kernel_rfl) (by kernel_rfl) (fun _ _ _ h => h) (by rfl) ?_ (by assumption) ?_
    rotate_left
    · (intro w9 hSw; have q0 := ctx_cell0 hSw.1; obtain ⟨q1, q2, q3, q4, q5, q6, q7, q8, q9⟩ := ctx_cells hSw.1; have q11 := dict_cell11 hSw.2.1; clear hSw; go_simp; (try with_reducible rfl))
    try simp only [Act.put, List.setIfInBounds_toArray, List.set_cons_zero, List.set_cons_succ]
    refine takeL (i := 3) (v := ?_) rfl (by kernel_rfl) (by kernel_rfl) (by kernel_rfl) (fun _ _ _ h => h) (by rfl) ?_ (by assumption) ?_
    rotate_left
    · (intro w9 hSw; have q0 := ctx_cell0 hSw.1; obtain ⟨q1, q2, q3, q4, q5, q6, q7, q8, q9⟩ := ctx_cells hSw.1; have q11 := dict_cell11 hSw.2.1; clear hSw; go_simp; (try with_reducible rfl))
    try simp only [Act.put, List.setIfInBounds_toArray, List.set_cons_zero, List.set_cons_succ]
    refine takeL (i := 4) (v := ?_) rfl (by kernel_rfl) (by kernel_rfl) (by kernel_rfl) (fun _ _ _ h => h) (by rfl) ?_ (by assumption) ?_
    rotate_left
    · (intro w9 hSw; have q0 := ctx_cell0 hSw.1; obtain ⟨q1, q2, q3, q4, q5, q6, q7, q8, q9⟩ := ctx_cells hSw.1; have q11 := dict_cell11 hSw.2.1; clear hSw; go_simp; (try with_reducible rfl))
    try simp only [Act.put, List.setIfInBounds_toArray, List.set_cons_zero, List.set_cons_succ]
    refine takeL (i := 5) (v := ?_) rfl (by kernel_rfl) (by kernel_rfl) (by kernel_rfl) (fun _ _ _ h => h) (by rfl) ?_ (by assumption) ?_
    rotate_left
    · (intro w9 hSw; have q0 := ctx_cell0 hSw.1; obtain ⟨q1, q2, q3, q4, q5, q6, q7, q8, q9⟩ := ctx_cells hSw.1; have q11 := dict_cell11 hSw.2.1; clear hSw; go_simp; (try with_reducible rfl))
    try simp only [Act.put, List.setIfInBounds_toArray, List.set_cons_zero, List.set_cons_succ]
    refine takeL (i := 6) (v := ?_) rfl (by kernel_rfl) (by kernel_rfl) (by kernel_rfl) (fun _ _ _ h => h) (by rfl) ?_ (by assumption) ?_
    rotate_left
    · (intro w9 hSw; have q0 := ctx_cell0 hSw.1; obtain ⟨q1, q2, q3, q4, q5, q6, q7, q8, q9⟩ := ctx_cells hSw.1; have q11 := dict_cell11 hSw.2.1; clear hSw; go_simp; (try with_reducible rfl))
    try simp only [Act.put, List.setIfInBounds_toArray, List.set_cons_zero, List.set_cons_succ]
    refine takeL (i := 7) (v := ?_) rfl (by kernel_rfl) (by kernel_rfl) (by kernel_rfl) (fun _ _ _ h => h) (by rfl) ?_ (by assumption) ?_
    rotate_left
    · (intro w9 hSw; have q0 := ctx_cell0 hSw.1; obtain ⟨q1, q2, q3, q4, q5, q6, q7, q8, q9⟩ := ctx_cells hSw.1; have q11 := dict_cell11 hSw.2.1; clear hSw; go_simp; (try with_reducible rfl))
    try simp only [Act.put, List.setIfInBounds_toArray, List.set_cons_zero, List.set_cons_succ]
    refine callL (i := 8) rfl (by kernel_rfl) (fun Kont hK => ?_)
    go_simp
    refine (HT1.out _ hHeld.2.2).mono ?_; rintro e w1 ⟨rfl, kk⟩
    go_wp2_with fail
    refine hK.out _ _ ?_ (fun hHeld => ?_)
    · (exact ⟨hHeld.1.keeps kk (by simp), hHeld.2.1.keeps kk (by simp), hHeld.2.2.then kk⟩)
    clear hK Kont
    refine takeL (i := 9) (v := ?_) rfl (by kernel_rfl) (by kernel_rfl) (by kernel_rfl) (fun _ _ _ h => h) (by rfl) ?_ (by assumption) ?_
    rotate_left
    · (intro w9 hSw; have q0 := ctx_cell0 hSw.1; obtain ⟨q1, q2, q3, q4, q5, q6, q7, q8, q9⟩ := ctx_cells hSw.1; have q11 := dict_cell11 hSw.2.1; clear hSw; go_simp; (try with_reducible rfl))
    try simp only [Act.put, List.setIfInBounds_toArray, List.set_cons_zero, List.set_cons_succ]
    refine takeL (i := 10) (v := ?_) rfl (by kernel_rfl) (by kernel_rfl) (by kernel_rfl) (fun _ _ _ h => h) (by rfl) ?_ (by assumption) ?_
    rotate_left
    · (intro w9 hSw; have q0 := ctx_cell0 hSw.1; obtain ⟨q1, q2, q3, q4, q5, q6, q7, q8, q9⟩ := ctx_cells hSw.1; have q11 := dict_cell11 hSw.2.1; clear hSw; go_simp; (try with_reducible rfl))
    try simp only [Act.put, List.setIfInBounds_toArray, List.set_cons_zero, List.set_cons_succ]
    refine takeL (i := 11) (v := ?_) rfl (by kernel_rfl) (by kernel_rfl) (by kernel_rfl) (fun _ _ _ h => h) (by rfl) ?_ (by assumption) ?_
    rotate_left
    · (intro w9 hSw; have q0 := ctx_cell0 hSw.1; obtain ⟨q1, q2, q3, q4, q5, q6, q7, q8, q9⟩ := ctx_cells hSw.1; have q11 := dict_cell11 hSw.2.1; clear hSw; go_simp; (try with_reducible rfl))
    try simp only [Act.put, List.setIfInBounds_toArray, List.set_cons_zero, List.set_cons_succ]
    refine takeL (i := 12) (v := ?_) rfl (by kernel_rfl) (by kernel_rfl) (by kernel_rfl) (fun _ _ _ h => h) (by rfl) ?_ (by assumption) ?_
    rotate_left
    · (intro w9 hSw; have q0 := ctx_cell0 hSw.1; obtain ⟨q1, q2, q3, q4, q5, q6, q7, q8, q9⟩ := ctx_cells hSw.1; have q11 := dict_cell11 hSw.2.1; clear hSw; go_simp; (try with_reducible rfl))
    try simp only [Act.put, List.setIfInBounds_toArray, List.set_cons_zero, List.set_cons_succ]
    refine takeL (i := 13) (v := ?_) rfl (by kernel_rfl) (by kernel_rfl) (by kernel_rfl) (fun _ _ _ h => h) (by rfl) ?_ (by assumption) ?_
    rotate_left
    · (intro w9 hSw; have q0 := ctx_cell0 hSw.1; obtain ⟨q1, q2, q3, q4, q5, q6, q7, q8, q9⟩ := ctx_cells hSw.1; have q11 := dict_cell11 hSw.2.1; clear hSw; go_simp; (try with_reducible rfl))
    try simp only [Act.put, List.setIfInBounds_toArray, List.set_cons_zero, List.set_cons_succ]
    refine callL (i := 14) rfl (by kernel_rfl) (fun Kont hK => ?_)
    go_simp
    refine (HT2.out _ hHeld.2.2).mono ?_; rintro e w2 ⟨rfl, kk⟩
    go_wp2_with fail
    refine hK.out _ _ ?_ (fun hHeld => ?_)
    · (exact ⟨hHeld.1.keeps kk (by simp), hHeld.2.1.keeps kk (by simp), hHeld.2.2.then kk⟩)
    clear hK Kont
    refine takeL (i := 15) (v := ?_) rfl (by kernel_rfl) (by kernel_rfl) (by kernel_rfl) (fun _ _ _ h => h) (by rfl) ?_ (by assumption) ?_
    rotate_left
    · (intro w9 hSw; have q0 := ctx_cell0 hSw.1; obtain ⟨q1, q2, q3, q4, q5, q6, q7, q8, q9⟩ := ctx_cells hSw.1; have q11 := dict_cell11 hSw.2.1; clear hSw; go_simp; (try with_reducible rfl))
    try simp only [Act.put, List.setIfInBounds_toArray, List.set_cons_zero, List.set_cons_succ]
    refine takeL (i := 16) (v := ?_) rfl (by kernel_rfl) (by kernel_rfl) (by kernel_rfl) (fun _ _ _ h => h) (by rfl) ?_ (by assumption) ?_
    rotate_left
    · (intro w9 hSw; have q0 := ctx_cell0 hSw.1; obtain ⟨q1, q2, q3, q4, q5, q6, q7, q8, q9⟩ := ctx_cells hSw.1; have q11 := dict_cell11 hSw.2.1; clear hSw; go_simp; (try with_reducible rfl))
    try simp only [Act.put, List.setIfInBounds_toArray, List.set_cons_zero, List.set_cons_succ]
    refine takeL (i := 17) (v := ?_) rfl (by kernel_rfl) (by kernel_rfl) (by kernel_rfl) (fun _ _ _ h => h) (by rfl) ?_ (by assumption) ?_
    rotate_left
    · (intro w9 hSw; have q0 := ctx_cell0 hSw.1; obtain ⟨q1, q2, q3, q4, q5, q6, q7, q8, q9⟩ := ctx_cells hSw.1; have q11 := dict_cell11 hSw.2.1; clear hSw; go_simp; (try with_reducible rfl))
    try simp only [Act.put, List.setIfInBounds_toArray, List.set_cons_zero, List.set_cons_succ]
    refine takeL (i := 18) (v := ?_) rfl (by kernel_rfl) (by kernel_rfl) (by kernel_rfl) (fun _ _ _ h => h) (by rfl) ?_ (by assumption) ?_
    rotate_left
    · (intro w9 hSw; have q0 := ctx_cell0 hSw.1; obtain ⟨q1, q2, q3, q4, q5, q6, q7, q8, q9⟩ := ctx_cells hSw.1; have q11 := dict_cell11 hSw.2.1; clear hSw; go_simp; (try with_reducible rfl))
    try simp only [Act.put, List.setIfInBounds_toArray, List.set_cons_zero, List.set_cons_succ]
    refine takeL (i := 19) (v := ?_) rfl (by kernel_rfl) (by kernel_rfl) (by kernel_rfl) (fun _ _ _ h => h) (by rfl) ?_ (by assumption) ?_
    rotate_left
    · (intro w9 hSw; have q0 := ctx_cell0 hSw.1; obtain ⟨q1, q2, q3, q4, q5, q6, q7, q8, q9⟩ := ctx_cells hSw.1; have q11 := dict_cell11 hSw.2.1; clear hSw; go_simp; (try with_reducible rfl))
    try simp only [Act.put, List.setIfInBounds_toArray, List.set_cons_zero, List.set_cons_succ]
    refine callL (i := 20) rfl (by kernel_rfl) (fun Kont hK => ?_)
    go_simp
    refine (HT3.out _ hHeld.2.2).mono ?_; rintro e w3 ⟨rfl, kk⟩
    go_wp2_with fail
    refine hK.out _ _ ?_ (fun hHeld => ?_)
    · (exact ⟨hHeld.1.keeps kk (by simp), hHeld.2.1.keeps kk (by simp), hHeld.2.2.then kk⟩)
    clear hK Kont
    refine takeL (i := 21) (v := ?_) rfl (by kernel_rfl) (by kernel_rfl) (by kernel_rfl) (fun _ _ _ h => h) (by rfl) ?_ (by assumption) ?_
    rotate_left
    · (intro w9 hSw; have q0 := ctx_cell0 hSw.1; obtain ⟨q1, q2, q3, q4, q5, q6, q7, q8, q9⟩ := ctx_cells hSw.1; have q11 := dict_cell11 hSw.2.1; clear hSw; go_simp; (try with_reducible rfl))
    try simp only [Act.put, List.setIfInBounds_toArray, List.set_cons_zero, List.set_cons_succ]
    refine takeL (i := 22) (v := ?_) rfl (by kernel_rfl) (by kernel_rfl) (by kernel_rfl) (fun _ _ _ h => h) (by rfl) ?_ (by assumption) ?_
    rotate_left
    · (intro w9 hSw; have q0 := ctx_cell0 hSw.1; obtain ⟨q1, q2, q3, q4, q5, q6, q7, q8, q9⟩ := ctx_cells hSw.1; have q11 := dict_cell11 hSw.2.1; clear hSw; go_simp; (try with_reducible rfl))
    try simp only [Act.put, List.setIfInBounds_toArray, List.set_cons_zero, List.set_cons_succ]
    refine takeL (i := 23) (v := ?_) rfl (by kernel_rfl) (by kernel_rfl) (by kernel_rfl) (fun _ _ _ h => h) (by rfl) ?_ (by assumption) ?_
    rotate_left
    · (intro w9 hSw; have q0 := ctx_cell0 hSw.1; obtain ⟨q1, q2, q3, q4, q5, q6, q7, q8, q9⟩ := ctx_cells hSw.1; have q11 := dict_cell11 hSw.2.1; clear hSw; go_simp; (try with_reducible rfl))
    try simp only [Act.put, List.setIfInBounds_toArray, List.set_cons_zero, List.set_cons_succ]
    refine takeL (i := 24) (v := ?_) rfl (by kernel_rfl) (by kernel_rfl) (by kernel_rfl) (fun _ _ _ h => h) (by rfl) ?_ (by assumption) ?_
    rotate_left
    · (intro w9 hSw; have q0 := ctx_cell0 hSw.1; obtain ⟨q1, q2, q3, q4, q5, q6, q7, q8, q9⟩ := ctx_cells hSw.1; have q11 := dict_cell11 hSw.2.1; clear hSw; go_simp; (try with_reducible rfl))
    try simp only [Act.put, List.setIfInBounds_toArray, List.set_cons_zero, List.set_cons_succ]
    refine callL (i := 25) rfl (by kernel_rfl) (fun Kont hK => ?_)
    go_simp
    refine (first_any _).mono ?_; rintro e w4 ⟨rfl, kk⟩
    go_wp2_with fail
    refine hK.out _ _ ?_ (fun hHeld => ?_)
    · (exact ⟨hHeld.1.keeps kk (by simp), hHeld.2.1.keeps kk (by simp), hHeld.2.2.then kk⟩)
    clear hK Kont
    refine takeL (i := 26) (v := ?_) rfl (by kernel_rfl) (by kernel_rfl) (by kernel_rfl) (fun _ _ _ h => h) (by rfl) ?_ (by assumption) ?_
    rotate_left
    · (intro w9 hSw; have q0 := ctx_cell0 hSw.1; obtain ⟨q1, q2, q3, q4, q5, q6, q7, q8, q9⟩ := ctx_cells hSw.1; have q11 := dict_cell11 hSw.2.1; clear hSw; go_simp; (try with_reducible rfl))
    try simp only [Act.put, List.setIfInBounds_toArray, List.set_cons_zero, List.set_cons_succ]
    refine takeL (i := 27) (v := ?_) rfl (by kernel_rfl) (by kernel_rfl) (by kernel_rfl) (fun _ _ _ h => h) (by rfl) ?_ (by assumption) ?_
    rotate_left
    · (intro w9 hSw; have q0 := ctx_cell0 hSw.1; obtain ⟨q1, q2, q3, q4, q5, q6, q7, q8, q9⟩ := ctx_cells hSw.1; have q11 := dict_cell11 hSw.2.1; clear hSw; go_simp; (try with_reducible rfl))
    try simp only [Act.put, List.setIfInBounds_toArray, List.set_cons_zero, List.set_cons_succ]
    refine takeL (i := 28) (v := ?_) rfl (by kernel_rfl) (by kernel_rfl) (by kernel_rfl) (fun _ _ _ h => h) (by rfl) ?_ (by assumption) ?_
    rotate_left
    · (intro w9 hSw; have q0 := ctx_cell0 hSw.1; obtain ⟨q1, q2, q3, q4, q5, q6, q7, q8, q9⟩ := ctx_cells hSw.1; have q11 := dict_cell11 hSw.2.1; clear hSw; go_simp; (try with_reducible rfl))
    try simp only [Act.put, List.setIfInBounds_toArray, List.set_cons_zero, List.set_cons_succ]
    refine takeL (i := 29) (v := ?_) rfl (by kernel_rfl) (by kernel_rfl) (by kernel_rfl) (fun _ _ _ h => h) (by rfl) ?_ (by assumption) ?_
    rotate_left
    · (intro w9 hSw; have q0 := ctx_cell0 hSw.1; obtain ⟨q1, q2, q3, q4, q5, q6, q7, q8, q9⟩ := ctx_cells hSw.1; have q11 := dict_cell11 hSw.2.1; clear hSw; go_simp; (try with_reducible rfl))
    try simp only [Act.put, List.setIfInBounds_toArray, List.set_cons_zero, List.set_cons_succ]
    refine takeL (i := 30) (v := ?_) rfl (by kernel_rfl) (by kernel_rfl) (by kernel_rfl) (fun _ _ _ h => h) (by rfl) ?_ (by assumption) ?_
    rotate_left
    · (intro w9 hSw; have q0 := ctx_cell0 hSw.1; obtain ⟨q1, q2, q3, q4, q5, q6, q7, q8, q9⟩ := ctx_cells hSw.1; have q11 := dict_cell11 hSw.2.1; clear hSw; go_simp; (try with_reducible rfl))
    try simp only [Act.put, List.setIfInBounds_toArray, List.set_cons_zero, List.set_cons_succ]
    refine callL (i := 31) rfl (by kernel_rfl) (fun Kont hK => ?_)
    go_simp
    refine (HM.out _ hHeld.2.2).mono ?_; rintro e w5 ⟨rfl, kk⟩
    go_wp2_with fail
    refine hK.out _ _ ?_ (fun hHeld => ?_)
    · (exact ⟨hHeld.1.keeps kk (by simp), hHeld.2.1.keeps kk (by simp), hHeld.2.2.then kk⟩)
    clear hK Kont
    refine takeL (i := 32) (v := ?_) rfl (by kernel_rfl) (by kernel_rfl) (by kernel_rfl) (fun _ _ _ h => h) (by rfl) ?_ (by assumption) ?_
    rotate_left
    · (intro w9 hSw; have q0 := ctx_cell0 hSw.1; obtain ⟨q1, q2, q3, q4, q5, q6, q7, q8, q9⟩ := ctx_cells hSw.1; have q11 := dict_cell11 hSw.2.1; clear hSw; go_simp; (try with_reducible rfl))
    try simp only [Act.put, List.setIfInBounds_toArray, List.set_cons_zero, List.set_cons_succ]
    refine takeL (i := 33) (v := ?_) rfl (by kernel_rfl) (by kernel_rfl) (by kernel_rfl) (fun _ _ _ h => h) (by rfl) ?_ (by assumption) ?_
    rotate_left
    · (intro w9 hSw; have q0 := ctx_cell0 hSw.1; obtain ⟨q1, q2, q3, q4, q5, q6, q7, q8, q9⟩ := ctx_cells hSw.1; have q11 := dict_cell11 hSw.2.1; clear hSw; go_simp; (try with_reducible rfl))
    try simp only [Act.put, List.setIfInBounds_toArray, List.set_cons_zero, List.set_cons_succ]
    refine takeL (i := 34) (v := ?_) rfl (by kernel_rfl) (by kernel_rfl) (by kernel_rfl) (fun _ _ _ h => h) (by rfl) ?_ (by assumption) ?_
    rotate_left
    · (intro w9 hSw; have q0 := ctx_cell0 hSw.1; obtain ⟨q1, q2, q3, q4, q5, q6, q7, q8, q9⟩ := ctx_cells hSw.1; have q11 := dict_cell11 hSw.2.1; clear hSw; go_simp; (try with_reducible rfl))
    try simp only [Act.put, List.setIfInBounds_toArray, List.set_cons_zero, List.set_cons_succ]
    refine skipL (i := 35) rfl (by kernel_rfl) (by kernel_rfl) (by kernel_rfl) (fun _ _ _ h => h) (by rfl) (by assumption) ?_
    try simp only [Act.put, List.setIfInBounds_toArray, List.set_cons_zero, List.set_cons_succ]
    refine skipL (i := 36) rfl (by kernel_rfl) (by kernel_rfl) (by kernel_rfl) (fun _ _ _ h => h) (by rfl) (by assumption) ?_
    try simp only [Act.put, List.setIfInBounds_toArray, List.set_cons_zero, List.set_cons_succ]
    refine skipL (i := 37) rfl (by kernel_rfl) (by kernel_rfl) (by kernel_rfl) (fun _ _ _ h => h) (by rfl) (by assumption) ?_
    try simp only [Act.put, List.setIfInBounds_toArray, List.set_cons_zero, List.set_cons_succ]
    refine skipL (i := 38) rfl (by kernel_rfl) (by kernel_rfl) (by kernel_rfl) (fun _ _ _ h => h) (by rfl) (by assumption) ?_
    try simp only [Act.put, List.setIfInBounds_toArray, List.set_cons_zero, List.set_cons_succ]
    refine takeL (i := 39) (v := ?_) rfl (by kernel_rfl) (by kernel_rfl) (by kernel_rfl) (fun _ _ _ h => h) (by rfl) ?_ (by assumption) ?_
    rotate_left
    · (intro w9 hSw; have q0 := ctx_cell0 hSw.1; obtain ⟨q1, q2, q3, q4, q5, q6, q7, q8, q9⟩ := ctx_cells hSw.1; have q11 := dict_cell11 hSw.2.1; clear hSw; go_simp; (try with_reducible rfl))
    try simp only [Act.put, List.setIfInBounds_toArray, List.set_cons_zero, List.set_cons_succ]
    refine takeL (i := 40) (v := ?_) rfl (by kernel_rfl) (by kernel_rfl) (by kernel_rfl) (fun _ _ _ h => h) (by rfl) ?_ (by assumption) ?_
    rotate_left
    · (intro w9 hSw; have q0 := ctx_cell0 hSw.1; obtain ⟨q1, q2, q3, q4, q5, q6, q7, q8, q9⟩ := ctx_cells hSw.1; have q11 := dict_cell11 hSw.2.1; clear hSw; go_simp; (try with_reducible rfl))
    try simp only [Act.put, List.setIfInBounds_toArray, List.set_cons_zero, List.set_cons_succ]
    refine wpAnyH_done (by kernel_rfl) ?_ _
    go_wp2_with fail
    go_ret
    exact ⟨by simp, hHeld.2.2⟩


end Go.Proofs.YtcmagccfagijlaaGreat
