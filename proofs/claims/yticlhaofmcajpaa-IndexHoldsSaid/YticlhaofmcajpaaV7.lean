/-
  slices.All over a slice of int: its iterator's contract.
-/
import Derived.Test.YticlhaofmcajpaaRF
import Derived.Test.YticlhaofmcajpaaSl
namespace Go.Proofs.Yticlhaofmcajpaa
set_option linter.unusedVariables false
set_option linter.unusedSimpArgs false
open Go.RowKit

attribute [local go_sem] Oper.semAt_some

/-- What has come when k rounds are over. -/
def upto {α : Type} (f : Nat → α) (k : Nat) : List α := (List.range k).map f
theorem upto_succ {α : Type} (f : Nat → α) (k : Nat) : upto f (k + 1) = upto f k ++ [f k] := by simp [upto, List.range_succ]
theorem upto_length {α : Type} (f : Nat → α) (k : Nat) : (upto f k).length = k := by simp [upto]
theorem upto_prefix {α : Type} (f : Nat → α) {k n : Nat} (h : k ≤ n) : upto f k <+: upto f n := by
  obtain ⟨m, rfl⟩ := Nat.le.dest h
  induction m with
  | zero => exact List.prefix_refl _
  | succ m ih =>
    rw [← Nat.add_assoc, upto_succ]
    exact (ih (Nat.le_add_right _ _)).trans (List.prefix_append _ _)
theorem upto_next {α : Type} {f : Nat → α} {k n : Nat} {x : α} (h : upto f k ++ [x] <+: upto f n) : k < n ∧ x = f k := by
  have hl := h.length_le
  simp only [List.length_append, upto_length, List.length_cons, List.length_nil] at hl
  refine ⟨by omega, ?_⟩
  have h2 : upto f k ++ [f k] <+: upto f n := by rw [← upto_succ]; exact upto_prefix f (by omega)
  have h3 := (List.prefix_iff_eq_take.1 h).trans ((by simp [upto_length]) : _ = List.take (upto f k ++ [f k]).length (upto f n))
  rw [← List.prefix_iff_eq_take.1 h2] at h3
  simpa using h3

abbrev encN (x : Nat × Int) : Array Value := #[.int .i64 (x.1 : Int), .int .i64 x.2]
abbrev itemN (l : List Int) (k : Nat) : Nat × Int := (k, (l[k]?).getD 0)

theorem Keeps.cellsAt {w w' : World} {C : List Nat} {b : Nat} (h : Keeps w w' C) (hb : b < w.heap.size) (hn : b ∉ C) {o : Nat} {v : Value} (hc : w.cell? ⟨b, o, none⟩ = some v) : w'.cell? ⟨b, o, none⟩ = some v :=
  (h.cell (p := ⟨b, o, none⟩) hb hn).trans hc

set_option maxRecDepth 100000 in
set_option maxHeartbeats 2000000 in
theorem all1_int (a : Option Addr) (n cp Bs : Nat) (l : List Int) (w : World) (hBs : Blk w Bs #[.slice a n cp] 37) (hr : RdI .i64 w (.slice a n cp) l) (hn : l.length ≤ 1000000000) :
    SeqB Try.prog 41 #[.pointer (some ⟨Bs, 0, none⟩)] encN (fun k => 0 < n → ∀ p, a = some p → k ≠ p.block)
      (fun ys => ys = upto (itemN l) l.length) (fun pre => pre <+: upto (itemN l) l.length) w := by
  intro lo C J Jx W hW hC hJ hJx hY h0
  have hBs' := hBs.keeps (Keeps.of_below hW) (by simp)
  have hr' := hr.keeps (Keeps.of_below hW)
  have hnl : n = l.length := hr.len
  obtain ⟨c0, -⟩ := hBs'.one
  have HR := Lib.hid hr'
  have HN := Lib.hid hnl
  have HY := Lib.hid hY
  have HJ := Lib.hid hJ
  have HC := Lib.hid hC
  have hn' : n ≤ 1000000000 := by omega
  clear hBs hr hBs' hr' hnl hY hJ hJx hC hn
  refine callsIn_of_wp Try.func41 rfl trivial ?_ rfl
  simp only [Try.ntmps41, List.size_toArray, List.length_cons, List.length_nil, Nat.reduceAdd, Nat.reduceSub, Array.replicate_succ, Array.replicate_zero, List.push_toArray, List.append_toArray, List.nil_append, List.cons_append]
  gi_wp2
  gi_loopw [7] (fun i wr => ∃ k : Nat, k ≤ n ∧ i = .int .i64 k ∧ Hid (J (upto (itemN l) k) wr) ∧ Keeps W wr C)
    (fun i _ => n - (intOf i).toNat)
  case atStart => exact ⟨0, Nat.zero_le _, rfl, h0, Keeps.refl _ _⟩
  case round =>
    obtain ⟨k, hk, rfl, hJs, hkw⟩ := hrel
    by_cases hlt : k < n
    · obtain ⟨x, hx⟩ : ∃ x, l[k]? = some x := ⟨_, List.getElem?_eq_getElem (by have := HN.out; omega)⟩
      obtain ⟨b, o, rfl, hb, e0⟩ := HR.out.at hx
      have hbC : b ∉ C := fun hm => (HC.out b hm).2 (by omega) _ rfl rfl
      replace e0 := hkw.cellsAt hb hbC e0
      have hi : itemN l k = (k, x) := by simp [itemN, hx]
      have hyy := HY.out (upto (itemN l) k) (itemN l k) wr hJs.out (by rw [← upto_succ]; exact upto_prefix _ (by have := HN.out; omega))
      rw [hi] at hyy
      obtain ⟨fn, tmps, assign, body, hy, hR⟩ := hyy
      dsimp only [encN] at hy
      have hcap : n ≤ cp := HR.out.cap
      clear hx
      have HI := Lib.hid hi
      clear hi
      gi_wp2
      refine (round_any hR).mono ?_
      rintro e W3 (⟨rfl, hJ3, hk3⟩ | ⟨rfl, hJx3, hk3⟩)
      · gi_wp2
        go_roundw
        case rel =>
          refine ⟨k + 1, by omega, by simp, ?_, (hkw.trans hk3 (fun x hx _ => hx))⟩
          show J _ _
          rw [upto_succ, HI.out]
          exact hJ3
        case measure => simp [intOf]; omega
      · gi_wp2
        refine bodyPost_ret (results_none rfl _ _ _) rfl ?_
        refine ⟨⟨_, rfl⟩, .inr ⟨_, ?_, hJx3⟩⟩
        rw [← HI.out, ← upto_succ]
        exact upto_prefix _ (by have := HN.out; omega)
    · obtain rfl : k = n := by omega
      gi_wp2
      go_end0
      exact ⟨⟨_, rfl⟩, .inl ⟨_, by rw [← HN.out], hJs.out⟩⟩

end Go.Proofs.Yticlhaofmcajpaa
