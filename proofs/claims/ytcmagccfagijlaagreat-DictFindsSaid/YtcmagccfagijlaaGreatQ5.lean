/-
  The plain mathematics of package tally: what its functions compute of a list of numbers. No program is in sight here.
  Varints. No program is in sight here.
  The step from a walk to a law's row, once for all laws of the seat: whoever shows that the call returns true and changes nothing that lay in memory before, has the row's contract.
  Slices of numbers in memory: what a slice value reads as; what keeps it; how an argument opens. No program is in sight here.
  Histograms: the plain law; lists of byte slices in memory. No program is in sight here.
  The iterator over the bytes of a varint.
  The idiom append([]T{}, x...): a copy of a slice of numbers in memory of the call's own. No program is in sight here.
  A result of type bool that lies in a cell; a function value is not nil.
-/
import Derived.RowKit
import Derived.Test.YtcmagccfagijlaaGreatRows
import Derived.ProofKit
import Derived.Carry
import Derived.Test.YtcmagccfagijlaaGreatQ1
import Derived.Deep.Slices
import Derived.OpenShut
import Derived.OwnWalk
import Derived.Laws.AppendOwnNone
import Derived.Test.YtcmagccfagijlaaGreatQ4
import Derived.IntWalk
import Derived.BigFrameIn
import Derived.Test.YtcmagccfagijlaaGreatQ2
namespace Go.Proofs.YtcmagccfagijlaaGreat
section
set_option linter.unusedVariables false
set_option linter.unusedSimpArgs false

/-! ### Validity, sums, used symbols -/
def fineC (n : Int) : Bool := decide (0 ≤ n) && decide (n ≤ 2147483648)
def rightL (l : List Int) : Bool := decide (l.length ≤ 256) && l.all fineC
def sumL : List Int → Int
  | [] => 0
  | x :: l => x + sumL l
def usedF : Nat → List Int → List Int
  | _, [] => []
  | i, x :: l => if 0 < x then (i : Int) :: usedF (i + 1) l else usedF (i + 1) l
def usedL (l : List Int) : List Int := usedF 0 l

theorem take_next {l : List Int} {k : Nat} {x : Int} (h : l[k]? = some x) : l.take (k + 1) = l.take k ++ [x] := by
  rw [List.take_add_one, h]; rfl
theorem sumL_snoc (l : List Int) (x : Int) : sumL (l ++ [x]) = sumL l + x := by
  induction l with
  | nil => simp [sumL]
  | cons y l ih => simp [sumL, ih]; omega
theorem sumL_append (l m : List Int) : sumL (l ++ m) = sumL l + sumL m := by
  induction l with
  | nil => simp [sumL]
  | cons y l ih => simp [sumL, ih]; omega
theorem usedF_snoc (i : Nat) (l : List Int) (x : Int) : usedF i (l ++ [x]) = usedF i l ++ (if 0 < x then [((i + l.length : Nat) : Int)] else []) := by
  induction l generalizing i with
  | nil => simp only [List.nil_append, usedF]; split <;> simp
  | cons y l ih =>
    simp only [List.cons_append, usedF, ih, List.length_cons]
    rw [show i + 1 + l.length = i + (l.length + 1) by omega]
    split <;> simp
theorem usedL_snoc (l : List Int) (x : Int) : usedL (l ++ [x]) = usedL l ++ (if 0 < x then [(l.length : Int)] else []) := by
  unfold usedL; rw [usedF_snoc]; simp
theorem usedF_len (i : Nat) (l : List Int) : (usedF i l).length ≤ l.length := by
  induction l generalizing i with
  | nil => simp [usedF]
  | cons y l ih =>
    simp only [usedF]
    have := ih (i + 1)
    split <;> simp <;> omega
theorem usedL_len (l : List Int) : (usedL l).length ≤ l.length := usedF_len 0 l
theorem usedF_mem {i : Nat} {l : List Int} {s : Int} (h : s ∈ usedF i l) : ∃ j : Nat, s = ((i + j : Nat) : Int) ∧ ∃ x, l[j]? = some x ∧ 0 < x := by
  induction l generalizing i with
  | nil => simp [usedF] at h
  | cons y l ih =>
    simp only [usedF] at h
    split at h
    · rcases List.mem_cons.1 h with rfl | h
      · exact ⟨0, by simp, y, by simp, by assumption⟩
      · obtain ⟨j, rfl, x, hx, h0⟩ := ih h
        exact ⟨j + 1, by congr 1; omega, x, by simpa using hx, h0⟩
    · obtain ⟨j, rfl, x, hx, h0⟩ := ih h
      exact ⟨j + 1, by congr 1; omega, x, by simpa using hx, h0⟩
theorem usedL_mem {l : List Int} {s : Int} (h : s ∈ usedL l) : ∃ j : Nat, s = (j : Int) ∧ ∃ x, l[j]? = some x ∧ 0 < x := by
  obtain ⟨j, rfl, x, hx, h0⟩ := usedF_mem h
  exact ⟨j, by simp, x, hx, h0⟩

theorem fineC_iff {n : Int} : fineC n = true ↔ 0 ≤ n ∧ n ≤ 2147483648 := by simp [fineC]
theorem rightL_iff {l : List Int} : rightL l = true ↔ l.length ≤ 256 ∧ ∀ x ∈ l, 0 ≤ x ∧ x ≤ 2147483648 := by
  simp [rightL, fineC]
theorem sumL_bd {l : List Int} (h : ∀ x ∈ l, 0 ≤ x ∧ x ≤ 2147483648) : 0 ≤ sumL l ∧ sumL l ≤ l.length * 2147483648 := by
  induction l with
  | nil => simp [sumL]
  | cons y l ih =>
    have h1 := h y (by simp)
    have h2 := ih (fun x hx => h x (by simp [hx]))
    simp only [sumL, List.length_cons]
    push_cast
    omega
theorem sumL_take_bd {l : List Int} (h : rightL l = true) (k : Nat) : 0 ≤ sumL (l.take k) ∧ sumL (l.take k) ≤ 549755813888 := by
  obtain ⟨h1, h2⟩ := rightL_iff.1 h
  have h3 := sumL_bd (l := l.take k) (fun x hx => h2 x (List.mem_of_mem_take hx))
  have h4 : (l.take k).length ≤ 256 := by simp; omega
  omega
theorem right_get {l : List Int} (h : rightL l = true) {k : Nat} {x : Int} (hx : l[k]? = some x) : 0 ≤ x ∧ x ≤ 2147483648 := (rightL_iff.1 h).2 x (List.mem_of_getElem? hx)

/-! ### The logarithm -/
/-- 256 times the logarithm, linear between powers of two, rounded down. -/
def logN (n : Nat) : Nat := 256 * n.log2 + (n - 2 ^ n.log2) * 256 / 2 ^ n.log2
def logI (n : Int) : Int := (logN n.toNat : Int)

theorem log_hi {n k : Nat} (hk : n.log2 = k) (h8 : 8 ≤ k) : logN n = 256 * k + (n - 2 ^ k) / 2 ^ (k - 8) := by
  unfold logN
  rw [hk]
  have e : 2 ^ k = 2 ^ (k - 8) * 256 := by
    rw [show (256 : Nat) = 2 ^ 8 from rfl, ← Nat.pow_add]; congr 1; omega
  generalize n - 2 ^ k = p
  rw [e, Nat.mul_div_mul_right _ _ (by omega)]
theorem log_lo {n k : Nat} (hk : n.log2 = k) (h8 : k ≤ 8) : logN n = 256 * k + (n - 2 ^ k) * 2 ^ (8 - k) := by
  unfold logN
  rw [hk]
  have e : (256 : Nat) = 2 ^ (8 - k) * 2 ^ k := by
    rw [← Nat.pow_add, show 8 - k + k = 8 by omega]
  generalize n - 2 ^ k = p
  congr 1
  conv => lhs; rw [e]
  rw [← Nat.mul_assoc, Nat.mul_div_cancel _ (Nat.two_pow_pos k)]

theorem log_le {m n : Nat} (h0 : 1 ≤ m) (h : m ≤ n) : logN m ≤ logN n := by
  have hm := Nat.log2_self_le (n := m) (by omega)
  have hn := Nat.log2_self_le (n := n) (by omega)
  have hm2 := Nat.lt_log2_self (n := m)
  have hn2 := Nat.lt_log2_self (n := n)
  unfold logN
  generalize m.log2 = a at *
  generalize n.log2 = b at *
  rcases Nat.lt_trichotomy a b with hab | rfl | hab
  · have h1 : (m - 2 ^ a) * 256 / 2 ^ a < 256 := by
      rw [Nat.div_lt_iff_lt_mul (Nat.two_pow_pos a)]
      rw [Nat.pow_succ] at hm2
      omega
    have : 256 * (a + 1) ≤ 256 * b := Nat.mul_le_mul_left _ hab
    exact Nat.le_trans (Nat.add_le_add_left (Nat.le_of_lt h1) (256 * a)) (Nat.le_trans (by omega) (Nat.le_add_right (256 * b) _))
  · have : (m - 2 ^ a) * 256 / 2 ^ a ≤ (n - 2 ^ a) * 256 / 2 ^ a := Nat.div_le_div_right (by omega)
    omega
  · exfalso
    have : 2 ^ (b + 1) ≤ 2 ^ a := Nat.pow_le_pow_right (by omega) hab
    omega
theorem log2_lt {n : Nat} (h : n ≤ 4611686018427387903) : n.log2 ≤ 61 := by
  by_cases h0 : n = 0
  · subst h0; simp
  · have := (Nat.log2_lt h0 (k := 62)).2 (by omega)
    omega
theorem logN_bd {n : Nat} (h : n ≤ 4611686018427387903) : logN n ≤ 15871 := by
  have h1 := log2_lt h
  have h2 := Nat.lt_log2_self (n := n)
  unfold logN
  generalize n.log2 = a at *
  have h3 : (n - 2 ^ a) * 256 / 2 ^ a < 256 := by
    rw [Nat.div_lt_iff_lt_mul (Nat.two_pow_pos a)]
    rw [Nat.pow_succ] at h2
    have := Nat.two_pow_pos a
    omega
  omega

/-! ### The cost -/
def costF (t : Int) : List Int → Int
  | [] => 0
  | x :: l => (if 0 < x then x * (logI t - logI x) else 0) + costF t l
def costL (l : List Int) : Int := costF (sumL l) l
theorem costF_snoc (t : Int) (l : List Int) (x : Int) : costF t (l ++ [x]) = costF t l + (if 0 < x then x * (logI t - logI x) else 0) := by
  induction l with
  | nil => simp [costF]
  | cons y l ih => simp only [List.cons_append, costF, ih]; omega
end

section
set_option linter.unusedVariables false
set_option linter.unusedSimpArgs false

/-- The bytes of a varint. -/
def varI (n : Nat) : List Int := if h : n < 128 then [(n : Int)] else ((n % 128 + 128 : Nat) : Int) :: varI (n / 128)
termination_by n
decreasing_by omega
theorem varI_small {n : Nat} (h : n < 128) : varI n = [(n : Int)] := by rw [varI, dif_pos h]
theorem varI_step {n : Nat} (h : 128 ≤ n) : varI n = ((n % 128 + 128 : Nat) : Int) :: varI (n / 128) := by rw [varI, dif_neg (by omega)]
theorem varI_pos (n : Nat) : 0 < (varI n).length := by
  rw [varI]; split <;> simp
theorem varI_len (d : Nat) : ∀ n : Nat, n < 128 ^ (d + 1) → (varI n).length ≤ d + 1 := by
  induction d with
  | zero => intro n h; rw [varI_small (by simpa using h)]; simp
  | succ d ih =>
    intro n h
    by_cases hn : n < 128
    · rw [varI_small hn]; simp
    · rw [varI_step (by omega), List.length_cons]
      have := ih (n / 128) (by rw [Nat.pow_succ] at h; omega)
      omega
theorem varI_byte {n : Nat} {x : Int} (h : x ∈ varI n) : 0 ≤ x ∧ x ≤ 255 := by
  induction n using Nat.strongRecOn with
  | _ n ih =>
    by_cases hn : n < 128
    · rw [varI_small hn] at h
      rw [List.mem_singleton.1 h]; omega
    · rw [varI_step (by omega)] at h
      rcases List.mem_cons.1 h with h | h
      · rw [h]; omega
      · exact ih _ (by omega) h
end

section
set_option linter.unusedVariables false
set_option linter.unusedSimpArgs false
set_option linter.unusedSectionVars false
open Go.ChangeShapes Go.WideShapes Go.ChangeAt Go.RowKit

theorem Tryz.own : ownKnob Tryz.prog.godebug = none := by kernel_rfl
theorem Tryz.laidOut : laidOutB Tryz.prog = true := by kernel_rfl

theorem trodAll_grown {H : Type} {enc : TypeId × Value → H} {P : Program} (hl : laidOutB P = true) {W W' : World} (hb : Below W.heap.size W W') (sp : Nat → Bool) :
    ∀ {ts : List TypeId} {vs : List Value} {ds : List (DataW H)} {ps : List MemPlace}, (∀ t ∈ ts, P.readableRec t = true ∧ t < P.types.size) →
      DataW.TrodAll enc P W 0 (fun _ => true) true ts vs ds ps → (∀ x ∈ ps, x.block < W.heap.size) → (∀ x ∈ ps, sp x.block = true) → DataW.TrodAll enc P W' 0 sp true ts vs ds ps
  | [], [], [], _, _, h, _, _ => h
  | t :: ts, v :: vs, d :: ds, ps, ht, h, hlt, hs => by
    obtain ⟨p, q, h1, h2, rfl⟩ := h
    refine ⟨p, q, ?_, ?_, rfl⟩
    · exact WideElems.Trod_stays hl (ht t (by simp)).1 (ht t (by simp)).2 h1 (fun x hx => hb.same (hlt x (by simp [hx]))) (fun x hx => hs x (by simp [hx]))
    · exact trodAll_grown hl hb sp (fun t' h' => ht t' (by simp [h'])) h2 (fun x hx => hlt x (by simp [hx])) (fun x hx => hs x (by simp [hx]))
  | [], [], _ :: _, _, _, h, _, _ => by cases h
  | [], _ :: _, _, _, _, h, _, _ => by cases h
  | _ :: _, [], _, _, _, h, _, _ => by cases h
  | _ :: _, _ :: _, [], _, _, h, _, _ => by cases h

theorem trodAll_count {H : Type} {enc : TypeId × Value → H} {P : Program} {W : World} {sp : Nat → Bool} :
    ∀ {ts : List TypeId} {vs : List Value} {ds : List (DataW H)} {ps : List MemPlace}, DataW.TrodAll enc P W 0 sp true ts vs ds ps → ds.length = ts.length
  | [], [], [], _, _ => rfl
  | t :: ts, v :: vs, d :: ds, ps, h => by obtain ⟨p, q, _, h2, _⟩ := h; simp [trodAll_count h2]
  | [], [], _ :: _, _, h => by cases h
  | [], _ :: _, _, _, h => by cases h
  | _ :: _, [], _, _, h => by cases h
  | _ :: _, _ :: _, [], _, h => by cases h

/-- What a law's walk shows. -/
def LawEnd (W : World) (e : Ending) (W' : World) : Prop := e = .returned (.bool true) ∧ Below W.heap.size W W'

theorem law_post {H : Type} {enc : TypeId × Value → H} {P : Program} {fn : Func} {s : ChangeSpec} (hl : laidOutB P = true) (hv : s.vars = [])
    (hs : ∀ ds : List (DataW H), ds.length = fn.params.toList.length → s.fn H ds = { results := [.lit (.bool true)], args := ds })
    (hr : ∀ t ∈ fn.params.toList, P.readableRec t = true ∧ t < P.types.size) {tb : TypeId} (hres : fn.resultTypes = #[tb]) (hb : P.underlying tb = some .bool)
    {W W' : World} {args : Array Value} {ds gs : List (DataW H)} {before : List MemPlace} (hW : DataW.Whole enc P fn.params.toList s.vars false W args.toList ds gs before)
    (hB : Below W.heap.size W W') : s.post enc P fn false true false false W args (.bool true) W' := by
  have hlt := hW.lt
  have hW0 := hW
  obtain ⟨p, q, hA, hV, rfl, hz, hn⟩ := hW
  rw [hv] at hV
  have hg : gs = [] ∧ q = [] := by
    cases gs with
    | nil => exact ⟨rfl, hV⟩
    | cons a b => cases hV
  obtain ⟨rfl, rfl⟩ := hg
  have e1 : s.fn H (ds ++ []) = { results := [.lit (.bool true)], args := ds } := by rw [List.append_nil]; exact hs ds (trodAll_count hA)
  refine ⟨ds, [], p ++ [], [], p, [], hW0, ?_, ?_, ?_, ?_, fun h => by cases h⟩
  · rw [e1, hres]
    exact trodAll_mk1 (shut_bool hb _)
  · rw [e1]
    exact trodAll_grown hl hB _ hr hA (fun x hx => hlt x (by simp [hx])) (fun x hx => by simpa using hlt x (by simp [hx]))
  · rw [e1, hv]
    exact rfl
  · exact hB.frame _

theorem law_contract {H : Type} {enc : TypeId × Value → H} {C : Checked} {f : FuncId} {fn : Func} {s : ChangeSpec} {conds : List PathCond} {a : Assume} (hl : laidOutB C.prog = true) (hv : s.vars = [])
    (hs : ∀ ds : List (DataW H), ds.length = fn.params.toList.length → s.fn H ds = { results := [.lit (.bool true)], args := ds })
    (hr : ∀ t ∈ fn.params.toList, C.prog.readableRec t = true ∧ t < C.prog.types.size) {tb : TypeId} (hres : fn.resultTypes = #[tb]) (hb : C.prog.underlying tb = some .bool)
    (walk : ∀ (W : World) (base : Nat) (args : Array Value) (ds : List (DataW H)) (ps : List MemPlace),
      (∀ (j : Nat) t v, fn.params[j]? = some t → args[j]? = some v → Value.okWide C.prog W .any base t v) →
      DataW.TrodAll enc C.prog W 0 (fun _ => true) true fn.params.toList args.toList ds ps → (∀ x ∈ ps, x.block < W.heap.size) → W.noneFrozen ps →
      Calls C.prog f args W (LawEnd W)) :
    ∀ (W : World) (base : Nat) (args : Array Value) (ds gs : List (DataW H)) (before : List MemPlace),
      (∀ (j : Nat) t v, fn.params[j]? = some t → args[j]? = some v → Value.okWide C.prog W .any base t v) →
      DataW.Whole enc C.prog fn.params.toList s.vars false W args.toList ds gs before →
      conds.all (PathCond.test C.prog ⟨fn.params.toList, ds, s.plain.varTypes C.prog, gs⟩) = true →
      a.holds C.prog (lone (Frame.enter C.prog f args .normal) [] W) →
      Calls C.prog f args W fun e W' => ∃ v, e = .returned v ∧ s.post enc C.prog fn false true false false W args v W' := by
  intro W base args ds gs before hval hW _ _
  have hlt := hW.lt
  have hW0 := hW
  obtain ⟨p, q, hA, hV, rfl, hz, hn⟩ := hW
  refine (walk W base args ds p hval hA (fun x hx => hlt x (by simp [hx])) (fun b o h => hz b o (by simp [h]))).mono fun e W' h => ?_
  exact ⟨_, h.1, law_post hl hv hs hr hres hb hW0 h.2⟩
end

section
set_option linter.unusedVariables false
set_option linter.unusedSimpArgs false
set_option linter.unusedSectionVars false
open Go.ChangeShapes Go.WideShapes Go.ChangeAt Go.RowKit

/-- A slice value reads as a list of numbers of kind k. -/
structure RdI (k : IntKind) (w : World) (v : Value) (l : List Int) : Prop where
  form : ∃ a n cp, v = .slice a n cp ∧ n = l.length ∧ (a = none → n = 0 ∧ cp = 0) ∧ (0 < n → n ≤ cp ∧ ∃ b o, a = some ⟨b, o, none⟩ ∧ b < w.heap.size ∧ ∀ i x, l[i]? = some x → w.cell? ⟨b, o + i, none⟩ = some (.int k x))

section
variable {k : IntKind} {w w' : World} {v : Value} {l : List Int} {a : Option Addr} {n cp : Nat}

theorem RdI.nil : RdI k w (.slice none 0 0) [] := ⟨_, _, _, rfl, rfl, fun _ => ⟨rfl, rfl⟩, fun h => absurd h (by omega)⟩
theorem RdI.zero (a : Addr) (c : Nat) : RdI k w (.slice (some a) 0 c) [] := ⟨_, _, _, rfl, rfl, (fun h => by cases h), fun h => absurd h (by omega)⟩
theorem RdI.keeps (h : RdI k w v l) (kk : Keeps w w' []) : RdI k w' v l := by
  obtain ⟨a, n, cp, rfl, hn, h0, hc⟩ := h.form
  refine ⟨a, n, cp, rfl, hn, h0, fun hp => ?_⟩
  obtain ⟨h1, b, o, h2, h3, h4⟩ := hc hp
  exact ⟨h1, b, o, h2, Nat.lt_of_lt_of_le h3 kk.size, fun i x hx => (kk.cell h3 (by simp)).trans (h4 i x hx)⟩
theorem RdI.keepsS {S : List Nat} (h : RdI k w v l) (kk : Keeps w w' S) (hn : ∀ ad n cp, v = .slice (some ad) n cp → 0 < n → ad.block ∉ S) : RdI k w' v l := by
  obtain ⟨a, n, cp, rfl, hl, h0, hc⟩ := h.form
  refine ⟨a, n, cp, rfl, hl, h0, fun hp => ?_⟩
  obtain ⟨h1, b, o, rfl, h3, h4⟩ := hc hp
  exact ⟨h1, b, o, rfl, Nat.lt_of_lt_of_le h3 kk.size, fun i x hx => (kk.cell (p := ⟨b, o + i, none⟩) h3 (fun hm => hn _ _ _ rfl hp hm)).trans (h4 i x hx)⟩
theorem RdI.len (h : RdI k w (.slice a n cp) l) : n = l.length := by
  obtain ⟨a', n', cp', he, hl, -⟩ := h.form
  obtain ⟨h1, h2, h3⟩ := Value.slice.inj he
  rw [h2, hl]
theorem RdI.cap (h : RdI k w (.slice a n cp) l) : n ≤ cp := by
  obtain ⟨a', n', cp', he, hl, h0, hc⟩ := h.form
  obtain ⟨h1, h2, h3⟩ := Value.slice.inj he
  subst h1 h2 h3
  by_cases hp : 0 < n
  · exact (hc hp).1
  · omega
theorem RdI.nilcap (h : RdI k w (.slice none n cp) l) : n = 0 ∧ cp = 0 ∧ l = [] := by
  obtain ⟨a', n', cp', he, hl, h0, hc⟩ := h.form
  obtain ⟨h1, h2, h3⟩ := Value.slice.inj he
  subst h1 h2 h3
  obtain ⟨e1, e2⟩ := h0 rfl
  exact ⟨e1, e2, List.eq_nil_of_length_eq_zero (by omega)⟩
/-- The cell of element i. -/
theorem RdI.at (h : RdI k w (.slice a n cp) l) {i : Nat} {x : Int} (hx : l[i]? = some x) : ∃ b o, a = some ⟨b, o, none⟩ ∧ b < w.heap.size ∧ w.cell? ⟨b, o + i, none⟩ = some (.int k x) := by
  obtain ⟨a', n', cp', he, hl, h0, hc⟩ := h.form
  obtain ⟨h1, h2, h3⟩ := Value.slice.inj he
  subst h1 h2 h3
  have hlt := (List.getElem?_eq_some_iff.1 hx).1
  obtain ⟨_, b, o, h2, h3, h4⟩ := hc (by omega)
  exact ⟨b, o, h2, h3, h4 i x hx⟩
theorem RdI.addr (h : RdI k w (.slice a n cp) l) (hp : 0 < n) : ∃ b o, a = some ⟨b, o, none⟩ ∧ b < w.heap.size ∧ ∀ i x, l[i]? = some x → w.cell? ⟨b, o + i, none⟩ = some (.int k x) := by
  obtain ⟨a', n', cp', he, hl, h0, hc⟩ := h.form
  obtain ⟨h1, h2, h3⟩ := Value.slice.inj he
  subst h1 h2 h3
  exact (hc hp).2
theorem RdI.drewN (h : RdI k w v l) (m : Nat) : RdI k (w.drewN m) v l := h.keeps ((Keeps.refl w []).drewN m)

theorem own_form {base : Nat} {e : TypeId} {size : Nat} {xs : List Value} (h : w.ownsRow base e size v n xs) : ∃ ad cp, v = .slice ad n cp := by
  rcases h.2 with ⟨rfl, rfl⟩ | ⟨g, cp, cur, rfl, -⟩
  · exact ⟨_, _, rfl⟩
  · exact ⟨_, _, rfl⟩
theorem own_keeps {base : Nat} {e : TypeId} {size : Nat} {xs : List Value} (h : w.ownsRow base e size v n xs) (kk : Keeps w w' []) : w'.ownsRow base e size v n xs :=
  h.kept (row := none) ⟨kk.os, kk.tape, kk.output, kk.size, fun i hi _ => kk.block i hi (by simp)⟩ (by cases hv : v.ownBlock <;> simp)
theorem own_setCell {base : Nat} {e : TypeId} {size : Nat} {xs : List Value} (h : w.ownsRow base e size v n xs) {a : Addr} (ha : v.ownBlock ≠ some a.block) (u : Value) : (w.setCell a u).ownsRow base e size v n xs :=
  h.kept (row := some a.block) ⟨rfl, rfl, rfl, by simp, fun k _ hk => Below.heap_setCell _ _ _ _ (fun he => hk (by rw [he]))⟩ (.inr ha)
theorem own_base {base base' : Nat} {e : TypeId} {size : Nat} {xs : List Value} (h : w.ownsRow base e size v n xs) (hb : base' ≤ base) : w.ownsRow base' e size v n xs := by
  obtain ⟨h1, h2⟩ := h
  refine ⟨h1, ?_⟩
  rcases h2 with h2 | ⟨g, cap, cur, rfl, hg, r⟩
  · exact .inl h2
  · exact .inr ⟨g, cap, cur, rfl, by omega, r⟩
/-- An owned row of numbers reads as their list. -/
theorem own_reads {base : Nat} {e : TypeId} (h : w.ownsRow base e 1 v l.length (l.map (.int k))) : RdI k w v l := by
  rcases h.2 with ⟨rfl, h0⟩ | ⟨g, cp, cur, rfl, hb, hg, hn, hm, hs, ht⟩
  · exact ⟨_, _, _, rfl, h0.symm, fun _ => ⟨rfl, rfl⟩, fun h => absurd h (by omega)⟩
  · refine ⟨_, _, _, rfl, rfl, (fun h => by cases h), fun h0 => ⟨hn, g, 0, rfl, (Array.getElem?_eq_some_iff.1 hg).1, fun i x hx => ?_⟩⟩
    have hlt := (List.getElem?_eq_some_iff.1 hx).1
    rw [Nat.zero_add, cell_of_row w g i cur e (0, 0) hg]
    have h1 : (cur.toList.take (l.length * 1))[i]? = (l.map (Value.int k))[i]? := by rw [ht]
    rw [List.getElem?_take, if_pos (by omega), List.getElem?_map, hx] at h1
    simpa using h1
/-- The cells of a slice of numbers, as append asks for them. -/
theorem RdI.news {ad : Addr} (h : RdI k w (.slice (some ad) n cp) l) : ∀ j u, (l.map (Value.int k))[j]? = some u → w.cell? (ad.add j) = some u := by
  intro j u hj
  rw [List.getElem?_map] at hj
  obtain ⟨x, hx, rfl⟩ := Option.map_eq_some_iff.1 hj
  obtain ⟨b, o, h2, h3, h4⟩ := h.at hx
  cases h2
  have : (⟨b, o, none⟩ : Addr).add j = ⟨b, o + j, none⟩ := by simp [Addr.add]
  rw [this]
  exact h4
end

theorem nums_one (k : IntKind) (l : List Int) : ∀ u ∈ l.map (Value.int k), u.oneCell' = true := by
  intro u hu
  obtain ⟨x, _, rfl⟩ := List.mem_map.1 hu
  simp [Value.oneCell']

theorem slice_cells {P : Program} {w : World} {t e : TypeId} {r : Reach} {b : Nat} {v : Value} (ht : P.underlying t = some (.slice e)) (h : Value.okWide P w r b t v) : v.cells.toList = [v] := by
  simp only [Value.okWide, ht, Cell.okWide] at h
  cases v <;> simp_all [Value.cells, Cell.ok]

/-- An argument that is a slice of numbers reads as a list. -/
theorem open_nums {H : Type} {enc : TypeId × Value → H} {P : Program} {w : World} {ts e : TypeId} {k : IntKind} {v : Value} {d : DataW H} {p : List MemPlace} (hts : P.underlying ts = some (.slice e)) (he : P.underlying e = some (.int k)) (hE : P.cellsOf e = 1)
    (hv : v.cells.toList = [v]) (h : DataW.Trod enc P w 0 (fun _ => true) true ts v d p) :
    ∃ l : List Int, RdI k w v l ∧ (∀ x ∈ l, (Lit.int k x).wf = true) := by
  obtain ⟨fuel, hf⟩ := h
  rw [hv] at hf
  rcases Go.Deep.open_slice1 hts hE hf with ⟨hcs, hx⟩ | ⟨a, len, cap, m, n, V, D, Pl, hcs, hb, hl, hm, hmm, hx, hel⟩
  · simp at hcs
    subst hcs
    exact ⟨[], .nil, by simp⟩
  · simp at hcs
    subst hcs
    have hmc : len ≤ m := by rw [hmm]; simp; exact hl
    have hread : ∀ i, i < len → ∃ x : Int, w.cell? (a.add i) = some (.int k x) ∧ (Lit.int k x).wf = true := by
      intro i hi
      obtain ⟨hc', ht'⟩ := hel i (by omega)
      obtain ⟨x, ex, _, wx⟩ := DataW.trod_int he ht'
      simp at ex
      exact ⟨x, by rw [hc', ex], wx⟩
    have hlist : ∀ j, j ≤ len → ∃ l : List Int, l.length = j ∧ (∀ i x, l[i]? = some x → w.cell? (a.add i) = some (.int k x)) ∧ (∀ x ∈ l, (Lit.int k x).wf = true) := by
      intro j
      induction j with
      | zero => intro _; exact ⟨[], rfl, by simp, by simp⟩
      | succ j ih =>
        intro hj
        obtain ⟨l, h1, h2, h3⟩ := ih (by omega)
        obtain ⟨x, hx1, hx2⟩ := hread j (by omega)
        refine ⟨l ++ [x], by simp [h1], ?_, ?_⟩
        · intro i y hy
          by_cases hij : i < l.length
          · rw [List.getElem?_append_left hij] at hy
            exact h2 i y hy
          · have hlt := (List.getElem?_eq_some_iff.1 hy).1
            simp at hlt
            have : i = j := by omega
            subst this
            rw [List.getElem?_append_right (by omega)] at hy
            simp [h1] at hy
            subst hy
            exact hx1
        · intro y hy
          simp at hy
          rcases hy with hy | rfl
          · exact h3 y hy
          · exact hx2
    obtain ⟨l, hl1, hl2, hl3⟩ := hlist len (Nat.le_refl _)
    refine ⟨l, ⟨_, _, _, rfl, hl1.symm, (fun h => by cases h), fun h0 => ?_⟩, hl3⟩
    obtain ⟨x, hx⟩ : ∃ x, l[0]? = some x := ⟨_, List.getElem?_eq_getElem (by omega)⟩
    have hc0 := hl2 0 x hx
    have e0 : a.add 0 = a := by simp [Addr.add]
    rw [e0] at hc0
    have hsp : a.spot = none := by
      cases hsp : a.spot with
      | none => rfl
      | some q =>
        simp [World.cell?] at hc0
        split at hc0 <;> simp [hsp] at hc0
    have ha : a = ⟨a.block, a.off, none⟩ := by cases a; simp_all
    refine ⟨hl, a.block, a.off, by rw [← ha], World.block_lt_of_cell? w a hc0, fun i y hy => ?_⟩
    have h1 := hl2 i y hy
    have e1 : a.add i = ⟨a.block, a.off + i, none⟩ := by rw [ha]; simp [Addr.add]
    rw [e1] at h1
    exact h1
end

section
set_option linter.unusedVariables false
set_option linter.unusedSimpArgs false
open Go.RowKit

/-- One byte more. -/
def bump (h : List Int) (c : Int) : List Int := h.set c.toNat (if h.getD c.toNat 0 + 1 < 2147483648 then h.getD c.toNat 0 + 1 else 2147483648)
def histF (h : List Int) (l : List Int) : List Int := l.foldl bump h
def histL (l : List Int) : List Int := histF (List.replicate 256 0) l
def ints (h : List Int) : Array Value := (h.map (Value.int .i64)).toArray

theorem bump_len (h : List Int) (c : Int) : (bump h c).length = h.length := by simp [bump]
theorem histF_len (l : List Int) : ∀ h : List Int, (histF h l).length = h.length := by
  induction l with
  | nil => intro h; rfl
  | cons c l ih => intro h; exact (ih _).trans (bump_len h c)
theorem histF_snoc (h l : List Int) (c : Int) : histF h (l ++ [c]) = bump (histF h l) c := by simp [histF]
theorem histF_append (h l m : List Int) : histF h (l ++ m) = histF (histF h l) m := by simp [histF]
/-- All entries are counts. -/
def Counts (h : List Int) : Prop := h.length = 256 ∧ ∀ x ∈ h, 0 ≤ x ∧ x ≤ 2147483648
theorem Counts.zero : Counts (List.replicate 256 0) := ⟨List.length_replicate, fun x hx => by have := (List.mem_replicate.1 hx).2; omega⟩
theorem Counts.get {h : List Int} (hc : Counts h) {i : Nat} (hi : i < 256) : ∃ x, h[i]? = some x ∧ 0 ≤ x ∧ x ≤ 2147483648 := by
  have hlt : i < h.length := by rw [hc.1]; exact hi
  exact ⟨_, List.getElem?_eq_getElem hlt, hc.2 _ (List.getElem_mem hlt)⟩
theorem Counts.bump {h : List Int} (hc : Counts h) {c : Int} (h0 : 0 ≤ c) (h1 : c ≤ 255) : Counts (bump h c) := by
  refine ⟨by rw [bump_len]; exact hc.1, fun x hx => ?_⟩
  obtain ⟨y, hy, hy0, hy1⟩ := hc.get (i := c.toNat) (by omega)
  have hg : h.getD c.toNat 0 = y := by simp [List.getD, hy]
  unfold Go.Proofs.YtcmagccfagijlaaGreat.bump at hx
  rw [hg] at hx
  rcases List.mem_or_eq_of_mem_set hx with hx | rfl
  · exact hc.2 x hx
  · split <;> omega
theorem Counts.histF {l : List Int} (hl : ∀ x ∈ l, 0 ≤ x ∧ x ≤ 255) : ∀ {h : List Int}, Counts h → Counts (histF h l) := by
  induction l with
  | nil => intro h hc; exact hc
  | cons c l ih => intro h hc; exact ih (fun x hx => hl x (by simp [hx])) (hc.bump (hl c (by simp)).1 (hl c (by simp)).2)

theorem ints_get {h : List Int} {i : Nat} {x : Int} (hx : h[i]? = some x) : (ints h)[i]? = some (.int .i64 x) := by simp [ints, hx]
theorem ints_set (h : List Int) (i : Nat) (x : Int) : (ints h).setIfInBounds i (.int .i64 x) = ints (h.set i x) := by simp [ints, List.map_set]
theorem ints_size (h : List Int) : (ints h).size = h.length := by simp [ints]

/-- A slice of slices of numbers reads as a list of lists. -/
structure RdL (k : IntKind) (w : World) (v : Value) (ls : List (List Int)) : Prop where
  form : ∃ a n cp, v = .slice a n cp ∧ n = ls.length ∧ (0 < n → n ≤ cp ∧ ∃ b o, a = some ⟨b, o, none⟩ ∧ b < w.heap.size ∧ ∀ i l, ls[i]? = some l → ∃ vi, w.cell? ⟨b, o + i, none⟩ = some vi ∧ RdI k w vi l)

section
variable {k : IntKind} {w w' : World} {v : Value} {ls : List (List Int)} {a : Option Addr} {n cp : Nat}
theorem RdL.keeps (h : RdL k w v ls) (kk : Keeps w w' []) : RdL k w' v ls := by
  obtain ⟨a, n, cp, rfl, hn, hc⟩ := h.form
  refine ⟨a, n, cp, rfl, hn, fun hp => ?_⟩
  obtain ⟨h1, b, o, h2, h3, h4⟩ := hc hp
  refine ⟨h1, b, o, h2, Nat.lt_of_lt_of_le h3 kk.size, fun i l hl => ?_⟩
  obtain ⟨vi, h5, h6⟩ := h4 i l hl
  exact ⟨vi, (kk.cell (p := ⟨b, o + i, none⟩) h3 (by simp)).trans h5, h6.keeps kk⟩
theorem RdL.at (h : RdL k w (.slice a n cp) ls) {i : Nat} {l : List Int} (hx : ls[i]? = some l) : ∃ b o vi, a = some ⟨b, o, none⟩ ∧ b < w.heap.size ∧ w.cell? ⟨b, o + i, none⟩ = some vi ∧ RdI k w vi l ∧ n ≤ cp := by
  obtain ⟨a', n', cp', he, hl, hc⟩ := h.form
  obtain ⟨h1, h2, h3⟩ := Value.slice.inj he
  subst h1 h2 h3
  have hlt := (List.getElem?_eq_some_iff.1 hx).1
  obtain ⟨h0, b, o, h2, h3, h4⟩ := hc (by omega)
  obtain ⟨vi, h5, h6⟩ := h4 i l hx
  exact ⟨b, o, vi, h2, h3, h5, h6, h0⟩
theorem RdL.len (h : RdL k w (.slice a n cp) ls) : n = ls.length := by
  obtain ⟨a', n', cp', he, hl, -⟩ := h.form
  obtain ⟨h1, h2, h3⟩ := Value.slice.inj he
  rw [h2, hl]
end
end

section
set_option linter.unusedVariables false
set_option linter.unusedSimpArgs false
set_option linter.unusedSectionVars false
open Go.RowKit

abbrev encB (x : Int) : Array Value := #[.int .u8 x]
def cellN (b : Nat) (w : World) : Nat := match w.cell? ⟨b, 0, none⟩ with | some (.int _ q) => q.toNat | _ => 0

theorem opIn_val {n : Nat} {P : Program} {o : Oper} {a : Act} {w w' : World} {K : Act → World → Prop} {Q : Exit → Act → World → Prop} {v : Value} (h : (execOp a.eval o).run P w = .ok (.value v) w') (hK : K (a.put o.dst v) w') : o.wpIn Fence.wide n P a w K Q := by
  refine ⟨fun _ _ => trivial, ?_⟩
  show Oper.uponIn Fence.wide n P o a K Q ((execOp a.eval o).run P w)
  rw [h]
  exact hK
theorem opIn_skip {n : Nat} {P : Program} {o : Oper} {a : Act} {w w' : World} {K : Act → World → Prop} {Q : Exit → Act → World → Prop} (h : (execOp a.eval o).run P w = .ok .skip w') (hK : K (a.put o.dst undef) w') : o.wpIn Fence.wide n P a w K Q := by
  refine ⟨fun _ _ => trivial, ?_⟩
  show Oper.uponIn Fence.wide n P o a K Q ((execOp a.eval o).run P w)
  rw [h]
  exact hK
theorem semAt_wide (ρ : Operand → Value) (o : Oper) : Oper.semAt Fence.wide.round ρ o = execOp ρ o := rfl
attribute [local go_sem] Oper.semAt_some semAt_wide Oper.about

theorem or128_all : ∀ r : Fin 256, bits BinOp.or IntKind.u8 ((r.val : Nat) : Int) 128 = ((r.val % 128 + 128 : Nat) : Int) := by decide +kernel
theorem or128 (q : Nat) : bits BinOp.or IntKind.u8 ((q : Int) % 256) 128 = ((q % 128 + 128 : Nat) : Int) := by
  have h := or128_all ⟨q % 256, Nat.mod_lt _ (by decide)⟩
  simp only at h
  rw [show ((q % 256 : Nat) : Int) = (q : Int) % 256 by omega] at h
  rw [h]
  congr 2
  omega
theorem cellN_eq {b : Nat} {w : World} {k : IntKind} {q : Nat} {T : TypeId} (h : Blk w b #[.int k (q : Int)] T) : cellN b w = q := by
  obtain ⟨c, -⟩ := h.one
  simp [cellN, c]

set_option maxRecDepth 100000 in
set_option maxHeartbeats 2000000 in
theorem parts1_seq (bn n : Nat) (w : World) (hn : n < 18446744073709551616) (hbn : Blk w bn #[.int .u64 (n : Int)] 95) :
    SeqY Tryz.prog 148 #[.pointer (some ⟨bn, 0, none⟩)] encB [bn] (fun W => ∃ q : Nat, Blk W bn #[.int .u64 (q : Int)] 95)
      (fun ys => ys = varI n) (fun pre => pre <+: varI n) w := by
  intro lo J Jx W hW hJ hJx hY h0
  have hbn' : Blk W bn #[.int .u64 (n : Int)] 95 := (hW bn (by simp)).trans hbn
  have HY := Lib.hid hY
  have HJ := Lib.hid hJ
  clear hbn hY hJ hJx
  refine callsIn_of_wp Tryz.func148 rfl trivial ?_ rfl
  simp only [Tryz.ntmps148, List.size_toArray, List.length_cons, List.length_nil, Nat.reduceAdd, Nat.reduceSub, Array.replicate_succ, Array.replicate_zero, List.push_toArray, List.append_toArray, List.nil_append, List.cons_append]
  gi_wp2
  gi_loopw [] (fun wr => ∃ (pre : List Int) (q : Nat), q < 18446744073709551616 ∧ Hid (varI n = pre ++ varI q) ∧ Blk wr bn #[.int .u64 (q : Int)] 95 ∧ Hid (J pre wr))
    (fun wr => cellN bn wr)
  case atStart => exact ⟨[], n, hn, rfl, hbn', h0⟩
  case round =>
    obtain ⟨pre, q, hq, hp, hbq, hJs⟩ := hrel
    obtain ⟨e3, -⟩ := hbq.one
    have hbf := hbq.frozen 0
    by_cases h128 : 128 ≤ q
    · have h128' : (128 : Int) ≤ (q : Int) := by omega
      have HOR := Lib.hid (or128 q)
      have hv := Lib.hid (varI_step h128)
      have hyy := HY.out pre ((q % 128 + 128 : Nat) : Int) wr hJs.out ⟨_, hbq⟩ ⟨varI (q / 128), by rw [hp.out, hv.out]; simp⟩
      obtain ⟨fn, tmps, assign, body, hy, hR⟩ := hyy
      dsimp only [encB] at hy
      have HQ := Lib.hid (cellN_eq hbq)
      obtain ⟨x, hx⟩ : ∃ x : Int, x = ((q % 128 + 128 : Nat) : Int) := ⟨_, rfl⟩
      rw [← hx] at HOR hv hy hR
      have HBQ := Lib.hid hbq
      clear hx hbq
      have hor := HOR.out
      gi_wp2
      refine (round_any hR).mono ?_
      rintro e W3 ⟨hk3, (⟨rfl, hJ3⟩ | ⟨rfl, hJx3⟩)⟩
      · have hb3 : Blk W3 bn #[.int .u64 (q : Int)] 95 := (hk3 bn (by simp)).trans HBQ.out
        obtain ⟨c3, -⟩ := hb3.one
        have f3 := hb3.frozen 0
        have hlt3 := hb3.lt
        have eq7 : (q : Int) / 128 = ((q / 128 : Nat) : Int) := by omega
        have NB : Hid (Blk (W3.setCell ⟨bn, 0, none⟩ (.int .u64 ((q / 128 : Nat) : Int))) bn #[.int .u64 ((q / 128 : Nat) : Int)] 95) := by
          have := hb3.set 0 (.int .u64 ((q / 128 : Nat) : Int))
          exact this
        have kk3 : Keeps W3 (W3.setCell ⟨bn, 0, none⟩ (.int .u64 ((q / 128 : Nat) : Int))) [bn] := (Keeps.refl W3 [bn]).setCell (.inr (by simp)) _
        have NJ : Hid (J (pre ++ [x]) (W3.setCell ⟨bn, 0, none⟩ (.int .u64 ((q / 128 : Nat) : Int)))) := HJ.out _ _ _ hJ3 kk3
        have NP : Hid (varI n = (pre ++ [x]) ++ varI (q / 128)) := by show _ = _; rw [hp.out, hv.out]; simp
        have NQ := Lib.hid (cellN_eq NB.out)
        clear hJ3 hk3 kk3
        gi_wp2
        refine opIn_val (v := .int .u64 ((q / 128 : Nat) : Int)) (w' := W3) (by simp [execOp, go_sem]) ?_
        simp only [Act.put, List.setIfInBounds_toArray, List.set_cons_succ, List.set_cons_zero]
        gi_wp2
        refine opIn_skip (w' := W3.setCell ⟨bn, 0, none⟩ (.int .u64 ((q / 128 : Nat) : Int))) (by simp [execOp, go_sem, Tryz.isAgg95, c3, f3]) ?_
        gi_wp2
        simp only [Act.put]
        go_roundw
        case rel => exact ⟨pre ++ [x], q / 128, by omega, NP, NB.out, NJ⟩
        case measure => rw [HQ.out, NQ.out]; omega
      · gi_wp2
        refine bodyPost_ret (v := .tuple #[]) (by simp [results, Tryz.results148]) rfl ⟨⟨_, rfl⟩, .inr ⟨_, ?_, hJx3⟩⟩
        exact ⟨varI (q / 128), by rw [hp.out, hv.out]; simp⟩
    · have h128' : decide ((128 : Int) ≤ (q : Int)) = false := decide_eq_false (by omega)
      have hv := Lib.hid (varI_small (n := q) (by omega))
      have hyy := HY.out pre (q : Int) wr hJs.out ⟨_, hbq⟩ ⟨[], by rw [hp.out, hv.out]; simp⟩
      obtain ⟨fn, tmps, assign, body, hy, hR⟩ := hyy
      dsimp only [encB] at hy
      gi_wp2
      refine (round_any hR).mono ?_
      rintro e W3 ⟨hk3, (⟨rfl, hJ3⟩ | ⟨rfl, hJx3⟩)⟩
      · gi_wp2
        go_end0
        exact ⟨⟨_, rfl⟩, .inl ⟨_, by rw [hp.out, hv.out], hJ3⟩⟩
      · gi_wp2
        go_end0
        exact ⟨⟨_, rfl⟩, .inr ⟨_, ⟨[], by rw [hp.out, hv.out]; simp⟩, hJx3⟩⟩
end

section
set_option linter.unusedVariables false
set_option linter.unusedSimpArgs false
open Go.RowKit

/-- An empty slice literal. -/
theorem run_build0 {P : Program} (w : World) (t e : TypeId) (ie : TypeInfo) (z : Value)
    (hu : P.underlying t = some (.slice e)) (hie : P.info? e = some ie) (hz : ie.zero = some z) :
    (Instr.buildSlice t 0 #[]).run P w = .ok (.slice (some ⟨w.heap.size, 0, none⟩) 0 0) (w.alloc (.cells #[] e)) := by
  have h0 : Array.range 0 = #[] := rfl
  simp [Instr.buildSlice, run_underlying hu, sizeOf, typeInfo, zeroValue, hie, hz, newRow, Instr.fill, h0]

theorem wpList_build0 {P : Program} {ops : Array Oper} {rest : List Oper} {o : Oper} {a : Act} {w : World} {Q : Exit → Act → World → Prop} (hg : o.guard = none) (t e : TypeId) (ho : o.op = .buildSlice t 0 #[])
    (ie : TypeInfo) (z : Value) (size : Nat)
    (hu : P.underlying t = some (.slice e)) (hie : P.info? e = some ie) (hz : ie.zero = some z)
    (h : ∀ v, (w.alloc (.cells #[] e)).ownsRow w.heap.size e size v 0 [] → v.ownBlock = some w.heap.size → v ≠ .slice none 0 0 → wpList P ops Q rest (a.put o.dst v) (w.alloc (.cells #[] e))) : wpList P ops Q (o :: rest) a w := by
  refine wpList_plain hg fun K hK => ?_
  unfold Oper.wp execOp
  simp only [ho, Sem.run_bind, Array.map_empty, run_build0 w t e ie z hu hie hz, Result.andThen_ok]
  exact hK _ _ (h _ ⟨by simp, .inr ⟨_, 0, #[], rfl, Nat.le_refl _, heap_alloc_new w _, Nat.le_refl _, by decide, by simp, by simp⟩⟩ rfl (by simp))

theorem wpList_move {P : Program} {ops : Array Oper} {rest : List Oper} {o : Oper} {a : Act} {w : World} {Q : Exit → Act → World → Prop} (hg : o.guard = none) (x : Operand) (ho : o.op = .move x)
    (h : wpList P ops Q rest (a.put o.dst (a.eval x)) w) : wpList P ops Q (o :: rest) a w := by
  refine wpList_plain hg fun K hK => ?_
  unfold Oper.wp execOp
  simp only [ho]
  exact hK _ _ h

theorem grown_refl (w : World) (row : Option Nat) : w.grownBy w row := ⟨rfl, rfl, rfl, Nat.le_refl _, fun _ _ _ => rfl⟩

/-- append of a slice of numbers, nil or not, to a slice of the call's own. -/
theorem wpList_appendI {P : Program} {w : World} {ops : Array Oper} {rest : List Oper} {o : Oper} {a : Act} {Q : Exit → Act → World → Prop} (hgd : o.guard = none) (s x : Operand) (t : TypeId)
    (ho : o.op = .call { callee := .builtin .append, args := #[s, x], argTypes := #[t, t] })
    (base : Nat) (e : TypeId) (i : TypeInfo) (z : Value) (bytes : Nat) (ht : P.underlying t = some (.slice e)) (hi : P.info? e = some i) (hz : i.zero = some z)
    (hsize : i.size = 1) (hby : i.bytes = bytes) (hzs : z.cells.size = 1)
    (v : Value) (n : Nat) (xs : List Value) (hs : a.eval s = v) (hown : w.ownsRow base e 1 v n xs) (vx : Value) (hx : a.eval x = vx) (k : IntKind) (l : List Int) (hv : RdI k w vx l)
    (h63 : n + l.length ≤ maxLen) (hbytes : (n + l.length) * bytes ≤ 140737488355328) (hbase : base ≤ w.heap.size)
    (h : ∀ v' w', w'.ownsRow base e 1 v' (n + l.length) (xs ++ l.map (Value.int k)) → w.grownBy w' v.ownBlock → (v ≠ .slice none 0 0 → v' ≠ .slice none 0 0) → wpList P ops Q rest (a.put o.dst v') w') : wpList P ops Q (o :: rest) a w := by
  obtain ⟨A0, m, cp, rfl, hm, -⟩ := hv.form
  cases A0 with
  | none =>
    obtain ⟨rfl, rfl, rfl⟩ := hv.nilcap
    exact wpList_append_own_none hgd s x t ho base e i 1 ht hi v n xs hs hown hx (h v w (by simpa using hown) (grown_refl _ _) id)
  | some ad =>
    subst hm
    exact wpList_append_own w hgd s x t ho base e i z 1 bytes ht hi hz hsize hby hzs (by decide) v n xs hs hown ad l.length cp (l.map (Value.int k)) hx (by simp) hv.news (nums_one k l) h63 hbytes hbase
      (fun v' w' h1 h2 h3 => h v' w' h1 h2 (fun hne e => hne (h3.1 e).1))

/-- The copy: a literal without elements, the slice, append. -/
theorem wpList_copyI {P : Program} {w : World} {ops : Array Oper} {rest : List Oper} {o1 o2 o3 : Oper} {a : Act} {Q : Exit → Act → World → Prop} (g1 : o1.guard = none) (g2 : o2.guard = none) (g3 : o3.guard = none) (t e : TypeId) (x : Operand) (d1 d2 : Tmp)
    (ho1 : o1.op = .buildSlice t 0 #[]) (ho2 : o2.op = .move x) (ho3 : o3.op = .call { callee := .builtin .append, args := #[.tmp d1, .tmp d2], argTypes := #[t, t] })
    (i : TypeInfo) (z : Value) (bytes : Nat) (ht : P.underlying t = some (.slice e)) (hi : P.info? e = some i) (hz : i.zero = some z) (hsize : i.size = 1) (hby : i.bytes = bytes) (hzs : z.cells.size = 1)
    (vx : Value) (hx : ∀ v0, (a.put o1.dst v0).eval x = vx) (e1 : ∀ v0, ((a.put o1.dst v0).put o2.dst vx).eval (.tmp d1) = v0) (e2 : ∀ v0, ((a.put o1.dst v0).put o2.dst vx).eval (.tmp d2) = vx)
    (k : IntKind) (l : List Int) (hv : RdI k w vx l) (h63 : l.length ≤ maxLen) (hbytes : l.length * bytes ≤ 140737488355328)
    (h : ∀ v0 v' w', w'.ownsRow w.heap.size e 1 v' l.length (l.map (Value.int k)) → Keeps w w' [] → v' ≠ .slice none 0 0 → wpList P ops Q rest (((a.put o1.dst v0).put o2.dst vx).put o3.dst v') w') : wpList P ops Q (o1 :: o2 :: o3 :: rest) a w := by
  refine wpList_build0 g1 t e ho1 i z 1 ht hi hz fun v0 hown hb hne => ?_
  refine wpList_move g2 x ho2 ?_
  rw [hx v0]
  refine wpList_appendI g3 _ _ t ho3 w.heap.size e i z bytes ht hi hz hsize hby hzs v0 0 [] (e1 v0) hown vx (e2 v0) k l (hv.keeps ((Keeps.refl w []).alloc _)) (by simpa using h63) (by simpa using hbytes) (by simp) ?_
  intro v' w' h1 h2 h3
  refine h v0 v' w' (by simpa using h1) ?_ (h3 hne)
  rw [hb] at h2
  exact ((Keeps.refl w []).alloc _).trans (Keeps.of_grown (S := [w.heap.size]) h2 (fun j hj => by cases hj; simp)) (fun j hj hlt => by have := List.mem_singleton.1 hj; omega)
end

section
set_option linter.unusedVariables false
set_option linter.unusedSimpArgs false
open Go.RowKit

theorem Tryz.loadBool (w : World) (a : Addr) (b : Bool) (h : w.cell? a = some (.bool b)) : (loadVar 4 a).run Tryz.prog w = .ok (.bool b) w := by
  go_simp

/-- A contract from a body that holds ranges over functions, the plain walk. -/
theorem calls_of_marks {P : Program} {f : FuncId} {fn : Func} {c : Code} {args : Array Value} {w : World} {R : Ending → World → Prop} (hf : P.funcs[f]? = some fn) (hb : fn.body = some c)
    (h : c.wp P (bodyPostM Fence.wide 9 P fn R) { tmps := args ++ Array.replicate (fn.ntmps - args.size) undef, defers := [] } w) : Calls P f args w R :=
  callsIn_wide.1 (callsIn_of_wp_marks hf hb trivial (wpIn_wide.2 h) rfl)

theorem res_cell {fn : Func} {p : Tmp} {T : TypeId} (h : fn.results = #[.cell p T]) {tmps : Array Value} {P : Program} {w : World} {a : Addr} {v : Value} (ht : tmps.getD p undef = .pointer (some a)) (hl : (loadVar T a).run P w = .ok v w) :
    (results fn tmps).run P w = .ok v w := by
  simp only [results, h]
  have ht' : tmps[p]?.getD undef = .pointer (some a) := by simpa using ht
  simp [Sem.run_bind, Result.andThen, ht', asAddr, hl]
end

end Go.Proofs.YtcmagccfagijlaaGreat
