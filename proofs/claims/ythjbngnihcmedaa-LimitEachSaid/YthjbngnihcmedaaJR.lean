/-
  Walks over package limit: Unlimited, its errors and all of it.
-/
import Derived.Test.YthjbngnihcmedaaJL
namespace Go.Proofs.Ythjbngnihcmedaa
set_option linter.unusedVariables false
set_option linter.unusedSimpArgs false
open Go.RowKit

set_option maxRecDepth 100000 in
set_option maxHeartbeats 4000000 in
theorem unlimited_not (v : Value) (l : List Int) (w : World) (hv : RdI .i64 w v l) (hn : l.length ≤ 1000000) (hE : askE l true ≠ 0) :
    Calls Try.prog 26 #[v] w (ListEnd w [] (askE l true)) := by
  have hmf : ∀ (fn : Fn) (first cap : Array Value) (w : World), (Instr.makeFunc fn first cap).run Try.prog w = .ok (.func fn first cap) w := fun _ _ _ _ => rfl
  have HV := Lib.hid hv
  obtain ⟨A0, n, cp0, rfl, hnl, -⟩ := hv.form
  obtain ⟨i0, hi, hz0, hz1, hz2⟩ := info_parts Try.infoPack
  obtain ⟨j0, hj, yz0, yz1, yz2⟩ := info_parts Try.infoInt
  have HN := Lib.hid hnl
  have HE := Lib.hid hE
  have hn' : n ≤ 1000000 := by omega
  clear hv hnl hE
  go_enter_defers Try.func26, Try.ntmps26
  go_wp2_with fail
  have k0 : Keeps w ((w.alloc (.cells #[.slice none 0 0] 22)).alloc (.cells #[.int .i64 0] 26)) [] := ((Keeps.refl w []).alloc _).alloc _
  have bo := (Blk.new w #[.slice none 0 0] 22).alloc (.cells #[.int .i64 0] 26)
  have be := Blk.new (w.alloc (.cells #[.slice none 0 0] 22)) #[.int .i64 0] 26
  simp only [World.size_alloc] at be
  refine (asked_any true _ _ l _ (HV.out.keeps k0) (contains0_any _) (by omega)).mono ?_
  rintro e w1 ⟨-, h1, k1⟩
  obtain rfl := h1 HE.out
  replace bo := bo.keeps k1 (by simp)
  replace be := be.keeps k1 (by simp)
  replace k0 := k0.then k1
  clear k1 h1
  obtain ⟨e0, fe⟩ := be.one
  obtain ⟨o0, fo⟩ := bo.one
  go_wp2_with fail
  refine leaves_cons (f := 33) (args := #[.pointer (some ⟨w.heap.size + 1, 0, none⟩), .func (.func 44) #[] #[.pointer (some ⟨w.heap.size, 0, none⟩)]]) (by simp) (by simp [go_sem]) ?_
  refine (caught_free _ _ (askE l true) _ _ _ _ [] w1 be bo (by omega)).mono ?_
  rintro e u' w'' ⟨rfl, rfl, rfl⟩
  refine ⟨.tuple #[.slice none 0 0, .int .i64 ((askE l true))], by simp only [results, Try.results26]; go_simp, ?_⟩
  refine ⟨_, rfl, RdI.nil, (fun ad n c h => by cases h), ?_⟩
  exact Keeps.setCell' (.inl (by dsimp only; omega)) (Keeps.setCell' (.inl (by dsimp only; omega)) k0)

/-- Unlimited, whatever it is asked. -/
theorem unlimited_any (v : Value) (l : List Int) (w : World) (hv : RdI .i64 w v l) (hn : l.length ≤ 1000000) :
    Calls Try.prog 26 #[v] w (ListEnd w (if freeErr l = 0 then freeOut l else []) (freeErr l)) := by
  have e1 : freeErr l = askE l true := by simp [freeErr, askE]
  by_cases hE : askE l true = 0
  · rw [e1, if_pos hE, hE]
    have hr : rightL l = true ∧ 1 < (usedL l).length := by
      unfold askE at hE
      split at hE
      · rename_i h
        split at hE
        · rename_i h2
          simp at h
          exact ⟨h, h2⟩
        · simp at hE
      · simp at hE
    exact unlimited_yes v l w hv hr.1 hr.2
  · rw [e1, if_neg hE]
    exact unlimited_not v l w hv hn hE

end Go.Proofs.Ythjbngnihcmedaa
