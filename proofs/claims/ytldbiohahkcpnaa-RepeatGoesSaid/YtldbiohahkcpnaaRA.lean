/-
  slices.All over a slice of Raw: its iterator's contract.
-/
import Derived.Test.YtldbiohahkcpnaaRF
import Derived.Test.YtldbiohahkcpnaaLB
namespace Go.Proofs.Ytldbiohahkcpnaa
set_option linter.unusedVariables false
set_option linter.unusedSimpArgs false
open Go.RowKit

attribute [local go_sem] Oper.semAt_some

/-- What has come when k rounds are over. -/
def upto {α : Type} (f : Nat → α) (k : Nat) : List α := (List.range k).map f
theorem upto_succ {α : Type} (f : Nat → α) (k : Nat) : upto f (k + 1) = upto f k ++ [f k] := by simp [upto, List.range_succ]
theorem upto_length {α : Type} (f : Nat → α) (k : Nat) : (upto f k).length = k := by simp [upto]
theorem upto_prefix {α : Type} (f : Nat → α) {k n : Nat} (h : k ≤ n) : upto f k <+: upto f n := by
  obtain ⟨m, rfl⟩ := Nat.le.dest h
  induction m with
  | zero => exact List.prefix_refl _
  | succ m ih =>
    rw [← Nat.add_assoc, upto_succ]
    exact (ih (Nat.le_add_right _ _)).trans (List.prefix_append _ _)

abbrev encI (x : Nat × I3) : Array Value := #[.int .i64 (x.1 : Int), .agg #[.int .i64 x.2.1, .int .i64 x.2.2.1, .int .i64 x.2.2.2]]
abbrev itemAt (l : List I3) (k : Nat) : Nat × I3 := (k, (l[k]?).getD (0, 0, 0))

theorem Keeps.cellsAt {w w' : World} {C : List Nat} {b : Nat} (h : Keeps w w' C) (hb : b < w.heap.size) (hn : b ∉ C) {o : Nat} {v : Value} (hc : w.cell? ⟨b, o, none⟩ = some v) : w'.cell? ⟨b, o, none⟩ = some v :=
  (h.cell (p := ⟨b, o, none⟩) hb hn).trans hc

set_option maxRecDepth 100000 in
set_option maxHeartbeats 2000000 in
theorem all1_raw (a : Option Addr) (n cp Bs : Nat) (l : List I3) (w : World) (hBs : Blk w Bs #[.slice a n cp] 37) (hr : Reads3 w (.slice a n cp) l) (hn : l.length ≤ 1000000) :
    SeqB Try.prog 44 #[.pointer (some ⟨Bs, 0, none⟩)] encI (fun k => 0 < n → ∀ p, a = some p → k ≠ p.block)
      (fun ys => ys = upto (itemAt l) l.length) (fun pre => pre <+: upto (itemAt l) l.length) w := by
  intro lo C J Jx W hW hC hJ hJx hY h0
  have hBs' := hBs.keeps (Keeps.of_below hW) (by simp)
  have hr' := hr.keeps (Keeps.of_below hW)
  have hnl : n = l.length := hr.len
  obtain ⟨c0, -⟩ := hBs'.one
  have HR := Lib.hid hr'
  have HN := Lib.hid hnl
  have HY := Lib.hid hY
  have HJ := Lib.hid hJ
  have HC := Lib.hid hC
  have hn' : n ≤ 1000000 := by omega
  clear hBs hr hBs' hr' hnl hY hJ hJx hC hn
  refine callsIn_of_wp Try.func44 rfl trivial ?_ rfl
  simp only [Try.ntmps44, List.size_toArray, List.length_cons, List.length_nil, Nat.reduceAdd, Nat.reduceSub, Array.replicate_succ, Array.replicate_zero, List.push_toArray, List.append_toArray, List.nil_append, List.cons_append]
  gi_wp2
  gi_loopw [7] (fun i wr => ∃ k : Nat, k ≤ n ∧ i = .int .i64 k ∧ Hid (J (upto (itemAt l) k) wr) ∧ Keeps W wr C)
    (fun i _ => n - (intOf i).toNat)
  case atStart => exact ⟨0, Nat.zero_le _, rfl, h0, Keeps.refl _ _⟩
  case round =>
    obtain ⟨k, hk, rfl, hJs, hkw⟩ := hrel
    by_cases hlt : k < n
    · obtain ⟨⟨x0, x1, x2⟩, hx⟩ : ∃ x, l[k]? = some x := ⟨_, List.getElem?_eq_getElem (by have := HN.out; omega)⟩
      obtain ⟨b, o, rfl, hb, e0, e1, e2⟩ := HR.out.at hx
      have hbC : b ∉ C := fun hm => (HC.out b hm).2 (by omega) _ rfl rfl
      replace e0 := hkw.cellsAt hb hbC e0
      replace e1 := hkw.cellsAt hb hbC e1
      replace e2 := hkw.cellsAt hb hbC e2
      have hi : itemAt l k = (k, (x0, x1, x2)) := by simp [itemAt, hx]
      have hyy := HY.out (upto (itemAt l) k) (itemAt l k) (wr.alloc (.cells #[.int .i64 x0, .int .i64 x1, .int .i64 x2] 24))
        (HJ.out _ _ _ hJs.out ((Below.refl _ _).alloc hkw.size _)) (by rw [← upto_succ]; exact upto_prefix _ (by have := HN.out; omega))
      rw [hi] at hyy
      obtain ⟨fn, tmps, assign, body, hy, hR⟩ := hyy
      dsimp only [encI] at hy
      have hcap : n ≤ cp := by
        obtain ⟨a', n', cp', he, hn1, hc1⟩ := HR.out.form
        obtain ⟨h1, h2, h3⟩ := Value.slice.inj he
        subst h2 h3
        exact (hc1 (by omega)).1
      clear hx
      have HI := Lib.hid hi
      clear hi
      gi_wp2
      refine (round_any hR).mono ?_
      rintro e W3 (⟨rfl, hJ3, hk3⟩ | ⟨rfl, hJx3, hk3⟩)
      · gi_wp2
        go_roundw
        case rel =>
          refine ⟨k + 1, by omega, by simp, ?_, ((hkw.alloc _).trans hk3 (fun x hx _ => hx))⟩
          show J _ _
          rw [upto_succ, HI.out]
          exact hJ3
        case measure => simp [intOf]; omega
      · gi_wp2
        refine bodyPost_ret (results_none rfl _ _ _) rfl ?_
        refine ⟨⟨_, rfl⟩, .inr ⟨_, ?_, hJx3⟩⟩
        rw [← HI.out, ← upto_succ]
        exact upto_prefix _ (by have := HN.out; omega)
    · obtain rfl : k = n := by omega
      gi_wp2
      go_end0
      exact ⟨⟨_, rfl⟩, .inl ⟨_, by rw [← HN.out], hJs.out⟩⟩

end Go.Proofs.Ytldbiohahkcpnaa
