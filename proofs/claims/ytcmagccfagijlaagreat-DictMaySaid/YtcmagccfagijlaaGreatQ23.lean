/-
  Walks over the reference of package dict: sameInts, whether equal or not.
  Walks over the reference of package dict: the tables' Same, whether equal or not.
-/
import Derived.Test.YtcmagccfagijlaaGreatQ19
namespace Go.Proofs.YtcmagccfagijlaaGreat
section
set_option linter.unusedVariables false
set_option linter.unusedSimpArgs false
set_option linter.unusedSectionVars false
open Go.RowKit

theorem take_eq_next {a b : List Int} {k : Nat} {x y : Int} (hx : a[k]? = some x) (hy : b[k]? = some y) (h : a.take k = b.take k) (hxy : x = y) : a.take (k + 1) = b.take (k + 1) := by
  rw [take_next hx, take_next hy, h, hxy]

set_option maxHeartbeats 1000000 in
theorem sameInts_any (v1 v2 : Value) (a b : List Int) (w : World) (h1 : RdI .i64 w v1 a) (h2 : RdI .i64 w v2 b) (hn : a.length ≤ 1000000) (hnb : b.length ≤ 1000000) :
    Calls Tryz.prog 34 #[v1, v2] w fun e w' => e = .returned (.bool (decide (a = b))) ∧ ∃ m, w' = w.drewN m := by
  obtain ⟨A1, n, c1, rfl, hn1, -⟩ := h1.form
  obtain ⟨A2, n2, c2, rfl, hn2, -⟩ := h2.form
  have H1 := Lib.hid h1
  have H2 := Lib.hid h2
  have HN := Lib.hid hn1
  have HN2 := Lib.hid hn2
  by_cases hne : n = n2
  · subst hne
    have hn' : n ≤ 1000000 := by omega
    have hnn : ((n : Int) != (n : Int)) = false := by simp
    have HR : Hid (∀ r : Bool, (r = true ↔ a = b) → decide (a = b) = r) := fun r h => by cases r <;> simp_all
    generalize decide (a = b) = R at *
    clear h1 h2 hn1 hn2 hn hnb
    go_enter Tryz.func34, Tryz.ntmps34
    go_wp2_with fail
    go_loopw [5] (fun i wr => ∃ k nd : Nat, k ≤ n ∧ i = .int .i64 k ∧ wr = w.drewN nd ∧ Hid (a.take k = b.take k)) (fun i _ => n - (intOf i).toNat)
    case atStart => exact ⟨0, 0, Nat.zero_le _, rfl, rfl, rfl⟩
    case round =>
      obtain ⟨k, nd, hk, rfl, rfl, ht⟩ := hrel
      by_cases hlt : k < n
      · obtain ⟨x, hx⟩ : ∃ x, a[k]? = some x := ⟨_, List.getElem?_eq_getElem (by have := HN.out; omega)⟩
        obtain ⟨y, hy⟩ : ∃ y, b[k]? = some y := ⟨_, List.getElem?_eq_getElem (by have := HN2.out; omega)⟩
        obtain ⟨bb, o, rfl, hb, hc⟩ := H1.out.at hx
        obtain ⟨b2, o2, rfl, hb2, hc2⟩ := H2.out.at hy
        have hcap := H1.out.cap
        have hcap2 := H2.out.cap
        have hkn : (k : Int) < (n : Int) := by omega
        have hk0 : (0 : Int) ≤ (k : Int) := Int.natCast_nonneg _
        by_cases hxy : x = y
        · have NT := Lib.hid (take_eq_next hx hy ht.out hxy)
          have g : (x != y) = false := by simpa using hxy
          clear hx hy hxy
          go_wp2_with fail
          go_quiet (fail)
          go_wp2_with fail
          go_roundw
          case rel => exact ⟨k + 1, nd + nq, by omega, by go_num, rfl, NT.out⟩
          case measure => simp [intOf]; omega
        · have FR := Lib.hid (HR.out false ⟨(fun h => by cases h), (fun h => by subst h; rw [hx] at hy; exact absurd (Option.some.inj hy) hxy)⟩)
          have g : (x != y) = true := by simpa using hxy
          clear hx hy hxy
          go_wp2_with fail
          go_quiet (fail)
          go_wp2_with fail
          go_ret
          exact ⟨by rw [FR.out]; rfl, nd + nq, by rw [World.drewN_drewN]⟩
      · have : k = n := by omega
        subst this
        have e : a = b := by
          have := ht.out
          rwa [List.take_of_length_le (by have := HN.out; omega), List.take_of_length_le (by have := HN2.out; omega)] at this
        have FR := Lib.hid (HR.out true ⟨fun _ => e, fun _ => rfl⟩)
        clear e
        go_wp2_with fail
        go_ret
        exact ⟨by rw [FR.out]; rfl, _, rfl⟩
  · have hf : decide (a = b) = false := decide_eq_false (fun h => by subst h; omega)
    have hnn : ((n : Int) != (n2 : Int)) = true := by simp; omega
    rw [hf]
    clear h1 h2 hn1 hn2 hn hnb hf
    go_enter Tryz.func34, Tryz.ntmps34
    go_wp2_with fail
    go_ret
    exact ⟨rfl, 0, rfl⟩
end

section
set_option linter.unusedVariables false
set_option linter.unusedSimpArgs false
set_option linter.unusedSectionVars false
open Go.RowKit

set_option maxRecDepth 100000 in
set_option maxHeartbeats 2000000 in
theorem tsame_any (g h : Int) (v1 v2 : Value) (a b : List Int) (w : World) (h1 : RdI .i64 w v1 a) (h2 : RdI .i64 w v2 b) (hn : a.length ≤ 1000000) (hnb : b.length ≤ 1000000) :
    Calls Tryz.prog 35 #[.agg #[.int .i64 g, v1], .agg #[.int .i64 h, v2]] w fun e w' => e = .returned (.bool (decide (g = h ∧ a = b))) ∧ Keeps w w' [] := by
  obtain ⟨A1, n, c1, rfl, hn1, -⟩ := h1.form
  obtain ⟨A2, n2, c2, rfl, hn2, -⟩ := h2.form
  have H1 := Lib.hid h1
  have H2 := Lib.hid h2
  have HN := Lib.hid hn1
  have HN2 := Lib.hid hn2
  by_cases hgh : g = h
  · subst hgh
    have hgg : (g != g) = false := by simp
    by_cases hne : n = n2
    · subst hne
      have hn' : n ≤ 1000000 := by omega
      have hnn : ((n : Int) != (n : Int)) = false := by simp
      have HR : Hid (∀ r : Bool, (r = true ↔ a = b) → decide (g = g ∧ a = b) = r) := fun r h => by cases r <;> simp_all
      generalize decide (g = g ∧ a = b) = R at *
      have k0 : Keeps w ((w.alloc (.cells #[.int .i64 g, .slice A1 n c1] 27)).alloc (.cells #[.int .i64 g, .slice A2 n c2] 27)) [] := ((Keeps.refl w []).alloc _).alloc _
      have b1 := (Blk.new w #[.int .i64 g, .slice A1 n c1] 27).alloc (.cells #[.int .i64 g, .slice A2 n c2] 27)
      have b2 := Blk.new (w.alloc (.cells #[.int .i64 g, .slice A1 n c1] 27)) #[.int .i64 g, .slice A2 n c2] 27
      simp only [World.size_alloc] at b2
      clear h1 h2 hn1 hn2 hn hnb
      go_enter Tryz.func35, Tryz.ntmps35
      go_wp2_with fail
      generalize ((w.alloc (.cells #[.int .i64 g, .slice A1 n c1] 27)).alloc (.cells #[.int .i64 g, .slice A2 n c2] 27)) = w0 at *
      obtain ⟨p1, p2⟩ := (⟨b1.cell 1, b2.cell 1⟩ : _ ∧ _)
      simp at p1 p2
      go_loopw [5] (fun i wr => ∃ k nd : Nat, k ≤ n ∧ i = .int .i64 k ∧ wr = w0.drewN nd ∧ Hid (a.take k = b.take k)) (fun i _ => n - (intOf i).toNat)
      case atStart => exact ⟨0, 0, Nat.zero_le _, rfl, rfl, rfl⟩
      case round =>
        obtain ⟨k, nd, hk, rfl, rfl, ht⟩ := hrel
        by_cases hlt : k < n
        · obtain ⟨x, hx⟩ : ∃ x, a[k]? = some x := ⟨_, List.getElem?_eq_getElem (by have := HN.out; omega)⟩
          obtain ⟨y, hy⟩ : ∃ y, b[k]? = some y := ⟨_, List.getElem?_eq_getElem (by have := HN2.out; omega)⟩
          obtain ⟨bb, o, rfl, hb, hc⟩ := H1.out.at hx
          obtain ⟨bc, oo, rfl, hbb, hcc⟩ := H2.out.at hy
          have hcap := H1.out.cap
          have hcap2 := H2.out.cap
          have hkn : (k : Int) < (n : Int) := by omega
          have hk0 : (0 : Int) ≤ (k : Int) := Int.natCast_nonneg _
          have hc' := (k0.cell (p := ⟨bb, o + k, none⟩) hb (by simp)).trans hc
          have hcc' := (k0.cell (p := ⟨bc, oo + k, none⟩) hbb (by simp)).trans hcc
          clear hc hcc b1 b2
          by_cases hxy : x = y
          · have NT := Lib.hid (take_eq_next hx hy ht.out hxy)
            have gg : (x != y) = false := by simpa using hxy
            clear hx hy hxy
            go_wp2_with fail
            go_quiet (fail)
            go_wp2_with fail
            go_roundw
            case rel => exact ⟨k + 1, nd + nq, by omega, by go_num, rfl, NT.out⟩
            case measure => simp [intOf]; omega
          · have FR := Lib.hid (HR.out false ⟨(fun h => by cases h), (fun h => by subst h; rw [hx] at hy; exact absurd (Option.some.inj hy) hxy)⟩)
            have gg : (x != y) = true := by simpa using hxy
            clear hx hy hxy
            go_wp2_with fail
            go_quiet (fail)
            go_wp2_with fail
            go_ret
            exact ⟨by rw [FR.out]; rfl, (k0.drewN _).drewN _⟩
        · have : k = n := by omega
          subst this
          have e : a = b := by
            have := ht.out
            rwa [List.take_of_length_le (by have := HN.out; omega), List.take_of_length_le (by have := HN2.out; omega)] at this
          have FR := Lib.hid (HR.out true ⟨fun _ => e, fun _ => rfl⟩)
          clear e b1 b2
          go_wp2_with fail
          go_ret
          exact ⟨by rw [FR.out]; rfl, k0.drewN _⟩
    · have hf : decide (g = g ∧ a = b) = false := decide_eq_false (fun h => by obtain ⟨-, h⟩ := h; subst h; omega)
      have hnn : ((n : Int) != (n2 : Int)) = true := by simp; omega
      rw [hf]
      clear h1 h2 hn1 hn2 hn hnb hf
      go_enter Tryz.func35, Tryz.ntmps35
      go_wp2_with fail
      go_ret
      exact ⟨rfl, ((Keeps.refl w []).alloc _).alloc _⟩
  · have hf : decide (g = h ∧ a = b) = false := decide_eq_false (fun e => hgh e.1)
    have hgg : (g != h) = true := by simpa using hgh
    rw [hf]
    clear h1 h2 hn1 hn2 hn hnb hf
    go_enter Tryz.func35, Tryz.ntmps35
    go_wp2_with fail
    go_ret
    exact ⟨rfl, ((Keeps.refl w []).alloc _).alloc _⟩
end

end Go.Proofs.YtcmagccfagijlaaGreat
