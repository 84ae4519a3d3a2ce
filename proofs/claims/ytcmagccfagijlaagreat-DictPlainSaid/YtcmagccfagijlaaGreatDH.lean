/-
  slices.Backward over bytes: its iterator's contract.
-/
import Derived.Test.YtcmagccfagijlaaGreatRY
import Derived.Test.YtcmagccfagijlaaGreatUp
import Derived.Test.YtcmagccfagijlaaGreatVC
namespace Go.Proofs.YtcmagccfagijlaaGreat
set_option linter.unusedVariables false
set_option linter.unusedSimpArgs false
open Go.RowKit

attribute [local go_sem] Oper.semAt_some

abbrev encBB (x : Nat × Int) : Array Value := #[.int .i64 (x.1 : Int), .int .u8 x.2]
def backF (l : List Int) (j : Nat) : Nat × Int := (l.length - 1 - j, (l[l.length - 1 - j]?).getD 0)
def blocksOf : Value → List Nat
  | .slice (some a) n _ => if 0 < n then [a.block] else []
  | _ => []

theorem RdI.same {k : IntKind} {w w' : World} {v : Value} {l : List Int} (h : RdI k w v l) (hs : SameAt (blocksOf v) w w') : RdI k w' v l := by
  obtain ⟨a, n, c, rfl, h1, h2, h3⟩ := h.form
  refine ⟨a, n, c, rfl, h1, h2, fun h0 => ?_⟩
  obtain ⟨h4, b, o, rfl, h5, h6⟩ := h3 h0
  have hb : w'.heap[b]? = w.heap[b]? := hs b (by simp [blocksOf, h0])
  refine ⟨h4, b, o, rfl, ?_, fun i x hx => ?_⟩
  · rw [Array.getElem?_eq_getElem h5] at hb
    exact (Array.getElem?_eq_some_iff.1 hb).1
  · exact (World.cell?_of_block (a := ⟨b, o + i, none⟩) hb).trans (h6 i x hx)

set_option maxRecDepth 100000 in
set_option maxHeartbeats 2000000 in
theorem backY (Bs : Nat) (v : Value) (l : List Int) (w : World) (hBs : Blk w Bs #[v] 22) (hr : RdI .u8 w v l) (hn : l.length ≤ 1000000) :
    SeqY Tryz.prog 156 #[.pointer (some ⟨Bs, 0, none⟩)] encBB ([Bs] ++ blocksOf v) (fun _ => True)
      (fun ys => ys = upto (backF l) l.length) (fun pre => pre <+: upto (backF l) l.length) w := by
  intro lo J Jx W hW hJ hJx hY h0
  have hBs' : Blk W Bs #[v] 22 := (hW Bs (by simp)).trans hBs
  have hr' := hr.same (hW.mono (fun k hk => List.mem_append.2 (.inr hk)))
  obtain ⟨a, n, c, rfl, hnl, -⟩ := hr.form
  have HB := Lib.hid hBs'
  have HR := Lib.hid hr'
  have HN := Lib.hid hnl
  have HY := Lib.hid hY
  have hn' : n ≤ 1000000 := by omega
  obtain ⟨c0, -⟩ := hBs'.one
  have hwr : wrap64 ((n : Int) - 1) = (n : Int) - 1 := IntWalk.wrap64_in _ ⟨by omega, by omega⟩
  clear hBs hr hBs' hr' hnl hY hn hJ hJx hW
  refine callsIn_of_wp Tryz.func156 rfl trivial ?_ rfl
  simp only [Tryz.ntmps156, List.size_toArray, List.length_cons, List.length_nil, Nat.reduceAdd, Nat.reduceSub, Array.replicate_succ, Array.replicate_zero, List.push_toArray, List.append_toArray, List.nil_append, List.cons_append]
  gi_wp2
  gi_loopw [3] (fun i wr => ∃ k : Nat, k ≤ n ∧ i = .int .i64 ((n : Int) - 1 - (k : Int)) ∧ Hid (J (upto (backF l) k) wr) ∧ Hid (SameAt ([Bs] ++ blocksOf (.slice a n c)) W wr))
    (fun i _ => ((intOf i) + 1).toNat)
  case atStart => exact ⟨0, Nat.zero_le _, by simp, h0, SameAt.refl _ _⟩
  case round =>
    obtain ⟨k, hk, rfl, hJs, hs⟩ := hrel
    have b1 : Blk wr Bs #[.slice a n c] 22 := (hs.out Bs (by simp)).trans HB.out
    have r1 := HR.out.same (hs.out.mono (fun k hk => List.mem_append.2 (.inr hk)))
    obtain ⟨d0, -⟩ := b1.one
    by_cases hlt : k < n
    · obtain ⟨q, hq⟩ : ∃ q, q = n - 1 - k := ⟨_, rfl⟩
      have hqi : (n : Int) - 1 - (k : Int) = (q : Int) := by omega
      obtain ⟨x, hx⟩ : ∃ x, l[q]? = some x := ⟨_, List.getElem?_eq_getElem (by have := HN.out; omega)⟩
      obtain ⟨b, o, rfl, hb, e0⟩ := r1.at hx
      have hcap := r1.cap
      have hi : backF l k = (q, x) := by
        have : l.length - 1 - k = q := by have := HN.out; omega
        simp [backF, this, hx]
      have hyy := HY.out (upto (backF l) k) (backF l k) wr hJs.out trivial (by rw [← upto_succ]; exact upto_prefix _ (by have := HN.out; omega))
      rw [hi] at hyy
      obtain ⟨fn, tmps, assign, body, hy, hR⟩ := hyy
      dsimp only [encBB] at hy
      have hqn : (q : Int) < (n : Int) := by omega
      have hw1 : wrap64 ((q : Int) - 1) = (q : Int) - 1 := IntWalk.wrap64_in _ ⟨by omega, by omega⟩
      have HI := Lib.hid hi
      have HQ := Lib.hid hq
      rw [hqi]
      clear hx hi b1 r1 hq hqi
      gi_wp2
      refine (round_any hR).mono ?_
      rintro e W3 ⟨hk3, (⟨rfl, hJ3⟩ | ⟨rfl, hJx3⟩)⟩
      · gi_wp2
        refine ⟨⟨k + 1, by omega, ?_, ?_, hs.out.trans hk3⟩, ?_⟩
        · congr 1; have := HQ.out; omega
        · show J _ _
          rw [upto_succ, HI.out]; exact hJ3
        · simp only [intOf]; omega
      · gi_wp2
        refine bodyPost_ret (v := .tuple #[]) (by simp [results, Tryz.results156]) rfl ⟨⟨_, rfl⟩, .inr ⟨_, ?_, hJx3⟩⟩
        rw [← HI.out, ← upto_succ]
        exact upto_prefix _ (by have := HN.out; omega)
    · gi_wp2
      go_end0
      exact ⟨⟨_, rfl⟩, .inl ⟨_, by rw [show k = l.length by have := HN.out; omega], hJs.out⟩⟩

end Go.Proofs.YtcmagccfagijlaaGreat
