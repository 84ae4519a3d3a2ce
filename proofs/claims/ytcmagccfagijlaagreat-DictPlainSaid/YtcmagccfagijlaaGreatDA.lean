/-
  Walks over package dict: Own, Equal, HasPrefix, marked, Raw; the reference: Marked, Plain.
-/
import Derived.Test.YtcmagccfagijlaaGreatVI
import Derived.Test.YtcmagccfagijlaaGreatStr
import Derived.Lib.SlBytesConst
namespace Go.Proofs.YtcmagccfagijlaaGreat
set_option linter.unusedVariables false
set_option linter.unusedSimpArgs false
set_option linter.unusedSectionVars false
open Go.RowKit

theorem strOfNums_inj {a b : List Int} (ha : ∀ x ∈ a, 0 ≤ x ∧ x ≤ 255) (hb : ∀ x ∈ b, 0 ≤ x ∧ x ≤ 255) (h : strOfNums a = strOfNums b) : a = b := by
  have h2 : a.map (fun n => UInt8.ofNat n.toNat) = b.map (fun n => UInt8.ofNat n.toNat) := by
    have := congrArg (fun s => s.data.toList) h
    simpa [strOfNums] using this
  have hl : a.length = b.length := by simpa using congrArg List.length h2
  apply List.ext_getElem hl
  intro i h3 h4
  have h5 := congrArg (fun l => l[i]?) h2
  simp only [List.getElem?_map, List.getElem?_eq_getElem h3, List.getElem?_eq_getElem h4, Option.map_some, Option.some.injEq] at h5
  have e1 := ha a[i] (List.getElem_mem h3)
  have e2 := hb b[i] (List.getElem_mem h4)
  have h6 := congrArg UInt8.toNat h5
  simp at h6
  omega

theorem str_beq {a b : List Int} (ha : ∀ x ∈ a, 0 ≤ x ∧ x ≤ 255) (hb : ∀ x ∈ b, 0 ≤ x ∧ x ≤ 255) : ((strOfNums a).toList == (strOfNums b).toList) = decide (a = b) := by
  by_cases h : a = b
  · subst h; simp
  · rw [decide_eq_false h, beq_eq_false_iff_ne]
    intro e
    rw [ByteArray.toList_eq, ByteArray.toList_eq] at e
    exact h (strOfNums_inj ha hb (ByteArray.ext (Array.toList_inj.1 e)))

theorem slice_head {w0 : World} {v : Value} {B : List Int} (h : RdI .u8 w0 v B) {j : Nat} (hj : j ≤ B.length) :
    ∃ r, (∀ w, (Instr.slice 22 v none (some (.int .i64 (j : Int))) none).run Tryz.prog w = .ok r w) ∧ RdI .u8 w0 r (B.take j) := by
  obtain ⟨i0, hi, hz0, hz1, hz2⟩ := info_parts Tryz.infoByte
  obtain ⟨ad, n, c, rfl, hn, hh⟩ := h.form
  have hcap := h.cap
  have run : ∀ w, (Instr.slice 22 (.slice ad n c) none (some (.int .i64 (j : Int))) none).run Tryz.prog w = .ok (.slice ad j c) w := by
    intro w
    have a2 : j ≤ c := by omega
    cases ad with
    | none =>
      obtain ⟨rfl, rfl, rfl⟩ := h.nilcap
      obtain rfl : j = 0 := by simp at hj; omega
      simp [Instr.slice, Instr.sliceBounds, Instr.sliceBound, asIntOf, run_underlying Tryz.underlying22, go_sem, sizeOf, typeInfo, hi, hz1]
    | some a =>
      by_cases hc : c = 0
      · subst hc
        obtain rfl : j = 0 := by omega
        simp [Instr.slice, Instr.sliceBounds, Instr.sliceBound, asIntOf, run_underlying Tryz.underlying22, go_sem, sizeOf, typeInfo, hi, hz1]
      · simp [Instr.slice, Instr.sliceBounds, Instr.sliceBound, asIntOf, run_underlying Tryz.underlying22, go_sem, sizeOf, typeInfo, hi, hz1, a2, hc, Addr.add]
  refine ⟨_, run, ?_⟩
  by_cases h0 : j = 0
  · subst h0
    rw [List.take_zero]
    cases ad with
    | none =>
      obtain ⟨rfl, rfl, rfl⟩ := h.nilcap
      exact .nil
    | some a => exact .zero _ _
  · obtain ⟨b, o, rfl, -, -⟩ := h.addr (by omega)
    have := h.piece (p := 0) (q := j) (by omega) c (by omega)
    simpa using this

/-- append([]byte(nil), x...). -/
theorem r_own (v : Value) (l : List Int) (w : World) (hv : RdI .u8 w v l) (hn : l.length ≤ 1000000) :
    Calls Tryz.prog 13 #[v] w fun e w' => ∃ v', e = .returned v' ∧ OwnB w' w.heap.size v' l ∧ Keeps w w' [] := by
  obtain ⟨i0, hi, hz0, hz1, hz2⟩ := info_parts Tryz.infoByte
  have HV := Lib.hid hv
  obtain ⟨ad, n, c, rfl, -, -⟩ := hv.form
  have HO := Lib.hid (World.ownsRow_nil w w.heap.size 5 1)
  clear hv
  go_enter Tryz.func13, Tryz.ntmps13
  go_wp2_with (at_builtin; go_loud (refine wpList_appendI rfl _ _ 22 rfl w.heap.size 5 i0 (.int .u8 0) 1 Tryz.underlying22 hi hz0 hz1 hz2 rfl (.slice none 0 0) 0 [] rfl HO.out _ rfl .u8 l HV.out (by unfold maxLen; omega) (by omega) (Nat.le_refl _) ?_; intro v3 w3 own3 g3 _; obtain ⟨a3, c3, rfl⟩ := own_form own3))
  go_ret
  refine ⟨_, rfl, ?_, Keeps.of_grown (S := []) g3 (fun k hk => by simp [Value.ownBlock] at hk)⟩
  rw [Nat.zero_add, List.nil_append] at own3
  exact own3

theorem bequal_any (v u : Value) (a b : List Int) (w : World) (ha : RdI .u8 w v a) (hb : RdI .u8 w u b) (ha' : ∀ x ∈ a, 0 ≤ x ∧ x ≤ 255) (hb' : ∀ x ∈ b, 0 ≤ x ∧ x ≤ 255) :
    Calls Tryz.prog 60 #[v, u] w fun e w' => e = .returned (.bool (decide (a = b))) ∧ w' = w := by
  have s1 := str_of (P := Tryz.prog) ha Tryz.underlying22 Tryz.underlying5 Tryz.underlying9
  have s2 := str_of (P := Tryz.prog) hb Tryz.underlying22 Tryz.underlying5 Tryz.underlying9
  have hab := str_beq ha' hb'
  generalize decide (a = b) = R at *
  clear ha hb ha' hb'
  generalize strOfNums a = A at *
  generalize strOfNums b = B at *
  go_enter Tryz.func60, Tryz.ntmps60
  go_wp2_with fail
  go_ret
  exact ⟨rfl, rfl⟩

theorem hasPrefix_any (v u : Value) (a b : List Int) (w : World) (ha : RdI .u8 w v a) (hb : RdI .u8 w u b) (ha' : ∀ x ∈ a, 0 ≤ x ∧ x ≤ 255) (hb' : ∀ x ∈ b, 0 ≤ x ∧ x ≤ 255) :
    Calls Tryz.prog 68 #[v, u] w fun e w' => e = .returned (.bool (decide (a.take b.length = b))) ∧ w' = w := by
  obtain ⟨A0, n, c, rfl, hn, -⟩ := ha.form
  obtain ⟨B0, m, d, rfl, hm, -⟩ := hb.form
  by_cases hl : m ≤ n
  · have hl' : (m : Int) ≤ (n : Int) := by omega
    obtain ⟨r, hr, rr⟩ := slice_head ha (j := m) (by omega)
    have HE := Lib.hid (bequal_any r _ _ b w rr hb (fun x hx => ha' x (List.mem_of_mem_take hx)) hb')
    rw [← hm]
    generalize decide (a.take m = b) = R at *
    clear ha hb rr hn hm
    go_enter Tryz.func68, Tryz.ntmps68
    go_wp2_with (refine HE.out.mono ?_; rintro e w1 ⟨rfl, rfl⟩)
    go_ret
    exact ⟨rfl, rfl⟩
  · have hl' : decide ((m : Int) ≤ (n : Int)) = false := decide_eq_false (by omega)
    have hf : decide (a.take b.length = b) = false := decide_eq_false (fun h => by have := congrArg List.length h; simp at this; omega)
    rw [hf]
    clear ha hb hn hm hf
    go_enter Tryz.func68, Tryz.ntmps68
    go_wp2_with fail
    go_ret
    exact ⟨rfl, rfl⟩

/-- Do the bytes start with the magic number? -/
def markB (l : List Int) : Bool := decide (l.take 4 = [80, 77, 84, 68])

theorem RdI.lit {k : IntKind} (w : World) {l : List Int} {T : TypeId} {cs : Array Value} (fr : Nat × Nat) (hl : cs.toList = l.map (.int k)) {n cp : Nat} (hn : n = l.length) (hc : n ≤ cp) : RdI k (w.alloc (.cells cs T fr)) (.slice (some ⟨w.heap.size, 0, none⟩) n cp) l := by
  refine ⟨_, _, _, rfl, hn, (fun h => by cases h), fun h0 => ⟨hc, w.heap.size, 0, rfl, by simp, fun i x hx => ?_⟩⟩
  rw [Nat.zero_add, cell_of_row (w.alloc (.cells cs T fr)) w.heap.size i cs T fr (heap_alloc_new w _), ← Array.getElem?_toList, hl, List.getElem?_map, hx]
  rfl

set_option maxRecDepth 100000 in
theorem marked_any (v : Value) (l : List Int) (w : World) (hv : RdI .u8 w v l) (hl : ∀ x ∈ l, 0 ≤ x ∧ x ≤ 255) :
    Calls Tryz.prog 31 #[v] w fun e w' => e = .returned (.bool (markB l)) ∧ Keeps w w' [] := by
  have HP : Hid (∀ w1 u, Keeps w w1 [] → RdI .u8 w1 u [80, 77, 84, 68] → Calls Tryz.prog 68 #[v, u] w1 fun e w' => e = .returned (.bool (markB l)) ∧ w' = w1) := fun w1 u k h => hasPrefix_any v u l [80, 77, 84, 68] w1 (hv.keeps k) h hl (by decide)
  obtain ⟨A0, n, c, rfl, -, -⟩ := hv.form
  have kc := fun (w : World) (C : Array Value) (n c : Nat) => Lib.run_convert_bytes_const (P := Tryz.prog) w 22 5 C n c Tryz.underlying22 Tryz.underlying5
  clear hv hl
  generalize markB l = R at *
  go_enter Tryz.func31, Tryz.ntmps31
  go_wp2_with (go_at_call 68; go_loud (refine (HP.out _ _ ((Keeps.refl _ _).alloc _) (RdI.lit _ _ (l := [80, 77, 84, 68]) rfl rfl (Nat.le_refl _))).mono ?_; rintro e w1 ⟨rfl, rfl⟩))
  go_ret
  exact ⟨rfl, (Keeps.refl _ _).alloc _⟩

set_option maxRecDepth 100000 in
theorem r_marked (v : Value) (l : List Int) (w : World) (hv : RdI .u8 w v l) (hl : ∀ x ∈ l, 0 ≤ x ∧ x ≤ 255) :
    Calls Tryz.prog 14 #[v] w fun e w' => e = .returned (.bool (markB l)) ∧ w' = w := by
  obtain ⟨A0, n, c, rfl, hn, -⟩ := hv.form
  by_cases h4 : 4 ≤ n
  · have h4' : (4 : Int) ≤ (n : Int) := by omega
    obtain ⟨r, hr0, rr⟩ := slice_head hv (j := 4) (by omega)
    have hr : ∀ w, (Instr.slice 22 (.slice A0 n c) none (some (.int .i64 4)) none).run Tryz.prog w = .ok r w := hr0
    clear hr0
    have s1 := str_of (P := Tryz.prog) rr Tryz.underlying22 Tryz.underlying5 Tryz.underlying9
    have hs := str_beq (a := l.take 4) (b := [80, 77, 84, 68]) (fun x hx => hl x (List.mem_of_mem_take hx)) (by decide)
    rw [show (strOfNums [80, 77, 84, 68]).toList = [80, 77, 84, 68] from by rw [ByteArray.toList_eq]; kernel_rfl] at hs
    have hR : Hid (markB l = decide (l.take 4 = [80, 77, 84, 68])) := rfl
    generalize decide (l.take 4 = [80, 77, 84, 68]) = R at *
    generalize markB l = R' at *
    clear hv rr hn hl
    generalize strOfNums (l.take 4) = A at *
    go_enter Tryz.func14, Tryz.ntmps14
    go_wp2_with fail
    go_ret
    exact ⟨by rw [hR.out]; rfl, rfl⟩
  · have h4' : decide ((4 : Int) ≤ (n : Int)) = false := decide_eq_false (by omega)
    have hf : markB l = false := decide_eq_false (fun h => by have := congrArg List.length h; simp at this; omega)
    rw [hf]
    clear hv hn hf hl
    go_enter Tryz.func14, Tryz.ntmps14
    go_wp2_with fail
    go_ret
    exact ⟨rfl, rfl⟩

end Go.Proofs.YtcmagccfagijlaaGreat
