/-
  Walks of the reference of package index: key, Chain, Places, Bytes.
-/
import Derived.Test.YticlhaofmcajpaaV1
namespace Go.Proofs.Yticlhaofmcajpaa
set_option linter.unusedVariables false
set_option linter.unusedSimpArgs false
set_option linter.unusedSectionVars false
open Go.RowKit

theorem strOfNums_inj {a b : List Int} (ha : ∀ x ∈ a, 0 ≤ x ∧ x ≤ 255) (hb : ∀ x ∈ b, 0 ≤ x ∧ x ≤ 255) (h : strOfNums a = strOfNums b) : a = b := by
  have h2 : a.map (fun n => UInt8.ofNat n.toNat) = b.map (fun n => UInt8.ofNat n.toNat) := by
    have := congrArg (fun s => s.data.toList) h
    simpa [strOfNums] using this
  have hl : a.length = b.length := by simpa using congrArg List.length h2
  apply List.ext_getElem hl
  intro i h3 h4
  have h5 := congrArg (fun l => l[i]?) h2
  simp only [List.getElem?_map, List.getElem?_eq_getElem h3, List.getElem?_eq_getElem h4, Option.map_some, Option.some.injEq] at h5
  have e1 := ha a[i] (List.getElem_mem h3)
  have e2 := hb b[i] (List.getElem_mem h4)
  have h6 := congrArg UInt8.toNat h5
  simp at h6
  omega

/-- The key of a position as a string. -/
def keyS (K : Nat) (B : List Int) (p : Int) : ByteArray := if hasB (nk K B) p then strOfNums (keyAt K B p.toNat) else strOfNums []

set_option maxHeartbeats 1000000 in
theorem r_key (K : Nat) (v : Value) (B : List Int) (p : Int) (w : World) (h : RdI .u8 w v B) (hK : 1 ≤ K) (hK8 : K ≤ 8) (hB : B.length ≤ 1000000) :
    Calls Try.prog 32 #[.agg #[.int .i64 (K : Int), v], .int .i64 p] w fun e w' => e = .returned (.tuple #[.string (keyS K B p), .bool (hasB (nk K B) p)]) ∧ Keeps w w' [] := by
  obtain ⟨A, n, c, rfl, hn, -⟩ := h.form
  have H := Lib.hid h
  have hnB : n ≤ 1000000 := by omega
  have hnk : nk K B = n + 1 - K := by unfold nk; omega
  by_cases h0 : p < 0
  · have hh : hasB (nk K B) p = false := by simp [hasB]; omega
    have hfin : Hid (keyS K B p = strOfNums [] ∧ hasB (nk K B) p = false) := ⟨by simp [keyS, hh], hh⟩
    clear h hn hh hnk
    go_enter Try.func32, Try.ntmps32
    go_wp2_with fail
    go_ret2
    exact ⟨by rw [hfin.out.1, hfin.out.2]; rfl, by repeat' first | with_reducible exact Keeps.refl _ _ | with_reducible refine Keeps.alloc ?_ _⟩
  · have d0 : decide (p < 0) = false := decide_eq_false h0
    obtain ⟨q, rfl⟩ := Int.eq_ofNat_of_zero_le (show 0 ≤ p by omega)
    have hcap := h.cap
    by_cases h1 : (n : Int) - (K : Int) < (q : Int)
    · have hh : hasB (nk K B) (q : Int) = false := by
        have e : decide ((q : Int) < ((n + 1 - K : Nat) : Int)) = false := decide_eq_false (by omega)
        rw [hasB, hnk, e, Bool.and_false]
      have hfin : Hid (keyS K B (q : Int) = strOfNums [] ∧ hasB (nk K B) (q : Int) = false) := ⟨by simp [keyS, hh], hh⟩
      clear h hn hh hnk
      go_enter Try.func32, Try.ntmps32
      go_wp2_with fail
      go_ret2
      exact ⟨by rw [hfin.out.1, hfin.out.2]; rfl, by repeat' first | with_reducible exact Keeps.refl _ _ | with_reducible refine Keeps.alloc ?_ _⟩
    · have d1 : decide ((n : Int) - (K : Int) < (q : Int)) = false := decide_eq_false h1
      have hqk : q + K ≤ n := by omega
      have hh : hasB (nk K B) (q : Int) = true := by
        have e : decide ((q : Int) < ((n + 1 - K : Nat) : Int)) = true := decide_eq_true (by omega)
        have e0 : decide ((0 : Int) ≤ (q : Int)) = true := decide_eq_true (by omega)
        rw [hasB, hnk, e, e0]; rfl
      have hfin : Hid (keyS K B (q : Int) = strOfNums (keyAt K B q) ∧ hasB (nk K B) (q : Int) = true) := ⟨by simp [keyS, hh], hh⟩
      obtain ⟨b, o, rfl, hb, -⟩ := h.addr (by omega)
      have hpc := h.piece (p := q) (q := K) hqk (c - q) (by omega)
      have hst : ∀ k, (convert 22 9 (.slice (some ⟨b, o + q, none⟩) K (c - q))).run Try.prog (w.alloc k) = .ok (.string (strOfNums (keyAt K B q))) (w.alloc k) := fun k => str_of (hpc.keeps ((Keeps.refl w []).alloc k)) Try.underlying22 Try.underlying5 Try.underlying9
      have hqc : (q : Int) + (K : Int) ≤ (c : Int) := by omega
      have hq0 : (0 : Int) ≤ (q : Int) := Int.natCast_nonneg _
      have hqq : (q : Int) ≤ (q : Int) + (K : Int) := by omega
      have hcq : ¬ c = q := by omega
      have hsub : q + K - q = K := by omega
      generalize strOfNums (keyAt K B q) = SK at *
      clear h hn hh hpc hnk
      go_enter Try.func32, Try.ntmps32
      go_wp2_with fail
      go_ret2
      exact ⟨by rw [hfin.out.1, hfin.out.2]; rfl, (Keeps.refl w []).alloc _⟩

/-- The reference's chain: behind the positions from p down. -/
def refChain (K : Nat) (B : List Int) (p : Int) : List Int := if hasB (nk K B) p then chainL K B p.toNat else []

theorem keyS_eq {K : Nat} {B : List Int} {p q : Nat} (hK : 1 ≤ K) (hB : ∀ x ∈ B, 0 ≤ x ∧ x ≤ 255) (hp : p < nk K B) (hq : q < nk K B) : keyS K B (p : Int) = keyS K B (q : Int) ↔ pad (keyAt K B q) = pad (keyAt K B p) := by
  have e1 : hasB (nk K B) (p : Int) = true := by simp [hasB]; omega
  have e2 : hasB (nk K B) (q : Int) = true := by simp [hasB]; omega
  simp only [keyS, e1, e2, if_true, Int.toNat_natCast]
  constructor
  · intro h
    rw [strOfNums_inj (keyAt_bytes hB) (keyAt_bytes hB) h]
  · intro h
    rw [pad_inj (by rw [keyAt_len ((nk_iff hK).1 hp), keyAt_len ((nk_iff hK).1 hq)]) h]

end Go.Proofs.Yticlhaofmcajpaa
