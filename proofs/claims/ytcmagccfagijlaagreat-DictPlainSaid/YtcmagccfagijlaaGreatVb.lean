/-
  The iterator over the bytes of a varint.
-/
import Derived.Test.YtcmagccfagijlaaGreatRY
import Derived.IntWalk
import Derived.BigFrameIn
import Derived.Test.YtcmagccfagijlaaGreatVa
import Derived.Test.YtcmagccfagijlaaGreatT10
import Derived.Test.YtcmagccfagijlaaGreatRows
namespace Go.Proofs.YtcmagccfagijlaaGreat
set_option linter.unusedVariables false
set_option linter.unusedSimpArgs false
set_option linter.unusedSectionVars false
open Go.RowKit

abbrev encB (x : Int) : Array Value := #[.int .u8 x]
def cellN (b : Nat) (w : World) : Nat := match w.cell? ⟨b, 0, none⟩ with | some (.int _ q) => q.toNat | _ => 0

theorem opIn_val {n : Nat} {P : Program} {o : Oper} {a : Act} {w w' : World} {K : Act → World → Prop} {Q : Exit → Act → World → Prop} {v : Value} (h : (execOp a.eval o).run P w = .ok (.value v) w') (hK : K (a.put o.dst v) w') : o.wpIn Fence.wide n P a w K Q := by
  refine ⟨fun _ _ => trivial, ?_⟩
  show Oper.uponIn Fence.wide n P o a K Q ((execOp a.eval o).run P w)
  rw [h]
  exact hK
theorem opIn_skip {n : Nat} {P : Program} {o : Oper} {a : Act} {w w' : World} {K : Act → World → Prop} {Q : Exit → Act → World → Prop} (h : (execOp a.eval o).run P w = .ok .skip w') (hK : K (a.put o.dst undef) w') : o.wpIn Fence.wide n P a w K Q := by
  refine ⟨fun _ _ => trivial, ?_⟩
  show Oper.uponIn Fence.wide n P o a K Q ((execOp a.eval o).run P w)
  rw [h]
  exact hK
theorem semAt_wide (ρ : Operand → Value) (o : Oper) : Oper.semAt Fence.wide.round ρ o = execOp ρ o := rfl
attribute [local go_sem] Oper.semAt_some semAt_wide Oper.about

theorem or128_all : ∀ r : Fin 256, bits BinOp.or IntKind.u8 ((r.val : Nat) : Int) 128 = ((r.val % 128 + 128 : Nat) : Int) := by decide +kernel
theorem or128 (q : Nat) : bits BinOp.or IntKind.u8 ((q : Int) % 256) 128 = ((q % 128 + 128 : Nat) : Int) := by
  have h := or128_all ⟨q % 256, Nat.mod_lt _ (by decide)⟩
  simp only at h
  rw [show ((q % 256 : Nat) : Int) = (q : Int) % 256 by omega] at h
  rw [h]
  congr 2
  omega
theorem cellN_eq {b : Nat} {w : World} {k : IntKind} {q : Nat} {T : TypeId} (h : Blk w b #[.int k (q : Int)] T) : cellN b w = q := by
  obtain ⟨c, -⟩ := h.one
  simp [cellN, c]

set_option maxRecDepth 100000 in
set_option maxHeartbeats 2000000 in
theorem parts1_seq (bn n : Nat) (w : World) (hn : n < 18446744073709551616) (hbn : Blk w bn #[.int .u64 (n : Int)] 95) :
    SeqY Tryz.prog 148 #[.pointer (some ⟨bn, 0, none⟩)] encB [bn] (fun W => ∃ q : Nat, Blk W bn #[.int .u64 (q : Int)] 95)
      (fun ys => ys = varI n) (fun pre => pre <+: varI n) w := by
  intro lo J Jx W hW hJ hJx hY h0
  have hbn' : Blk W bn #[.int .u64 (n : Int)] 95 := (hW bn (by simp)).trans hbn
  have HY := Lib.hid hY
  have HJ := Lib.hid hJ
  clear hbn hY hJ hJx
  refine callsIn_of_wp Tryz.func148 rfl trivial ?_ rfl
  simp only [Tryz.ntmps148, List.size_toArray, List.length_cons, List.length_nil, Nat.reduceAdd, Nat.reduceSub, Array.replicate_succ, Array.replicate_zero, List.push_toArray, List.append_toArray, List.nil_append, List.cons_append]
  gi_wp2
  gi_loopw [] (fun wr => ∃ (pre : List Int) (q : Nat), q < 18446744073709551616 ∧ Hid (varI n = pre ++ varI q) ∧ Blk wr bn #[.int .u64 (q : Int)] 95 ∧ Hid (J pre wr))
    (fun wr => cellN bn wr)
  case atStart => exact ⟨[], n, hn, rfl, hbn', h0⟩
  case round =>
    obtain ⟨pre, q, hq, hp, hbq, hJs⟩ := hrel
    obtain ⟨e3, -⟩ := hbq.one
    have hbf := hbq.frozen 0
    by_cases h128 : 128 ≤ q
    · have h128' : (128 : Int) ≤ (q : Int) := by omega
      have HOR := Lib.hid (or128 q)
      have hv := Lib.hid (varI_step h128)
      have hyy := HY.out pre ((q % 128 + 128 : Nat) : Int) wr hJs.out ⟨_, hbq⟩ ⟨varI (q / 128), by rw [hp.out, hv.out]; simp⟩
      obtain ⟨fn, tmps, assign, body, hy, hR⟩ := hyy
      dsimp only [encB] at hy
      have HQ := Lib.hid (cellN_eq hbq)
      obtain ⟨x, hx⟩ : ∃ x : Int, x = ((q % 128 + 128 : Nat) : Int) := ⟨_, rfl⟩
      rw [← hx] at HOR hv hy hR
      have HBQ := Lib.hid hbq
      clear hx hbq
      have hor := HOR.out
      gi_wp2
      refine (round_any hR).mono ?_
      rintro e W3 ⟨hk3, (⟨rfl, hJ3⟩ | ⟨rfl, hJx3⟩)⟩
      · have hb3 : Blk W3 bn #[.int .u64 (q : Int)] 95 := (hk3 bn (by simp)).trans HBQ.out
        obtain ⟨c3, -⟩ := hb3.one
        have f3 := hb3.frozen 0
        have hlt3 := hb3.lt
        have eq7 : (q : Int) / 128 = ((q / 128 : Nat) : Int) := by omega
        have NB : Hid (Blk (W3.setCell ⟨bn, 0, none⟩ (.int .u64 ((q / 128 : Nat) : Int))) bn #[.int .u64 ((q / 128 : Nat) : Int)] 95) := by
          have := hb3.set 0 (.int .u64 ((q / 128 : Nat) : Int))
          exact this
        have kk3 : Keeps W3 (W3.setCell ⟨bn, 0, none⟩ (.int .u64 ((q / 128 : Nat) : Int))) [bn] := (Keeps.refl W3 [bn]).setCell (.inr (by simp)) _
        have NJ : Hid (J (pre ++ [x]) (W3.setCell ⟨bn, 0, none⟩ (.int .u64 ((q / 128 : Nat) : Int)))) := HJ.out _ _ _ hJ3 kk3
        have NP : Hid (varI n = (pre ++ [x]) ++ varI (q / 128)) := by show _ = _; rw [hp.out, hv.out]; simp
        have NQ := Lib.hid (cellN_eq NB.out)
        clear hJ3 hk3 kk3
        gi_wp2
        refine opIn_val (v := .int .u64 ((q / 128 : Nat) : Int)) (w' := W3) (by simp [execOp, go_sem]) ?_
        simp only [Act.put, List.setIfInBounds_toArray, List.set_cons_succ, List.set_cons_zero]
        gi_wp2
        refine opIn_skip (w' := W3.setCell ⟨bn, 0, none⟩ (.int .u64 ((q / 128 : Nat) : Int))) (by simp [execOp, go_sem, Tryz.isAgg95, c3, f3]) ?_
        gi_wp2
        simp only [Act.put]
        go_roundw
        case rel => exact ⟨pre ++ [x], q / 128, by omega, NP, NB.out, NJ⟩
        case measure => rw [HQ.out, NQ.out]; omega
      · gi_wp2
        refine bodyPost_ret (v := .tuple #[]) (by simp [results, Tryz.results148]) rfl ⟨⟨_, rfl⟩, .inr ⟨_, ?_, hJx3⟩⟩
        exact ⟨varI (q / 128), by rw [hp.out, hv.out]; simp⟩
    · have h128' : decide ((128 : Int) ≤ (q : Int)) = false := decide_eq_false (by omega)
      have hv := Lib.hid (varI_small (n := q) (by omega))
      have hyy := HY.out pre (q : Int) wr hJs.out ⟨_, hbq⟩ ⟨[], by rw [hp.out, hv.out]; simp⟩
      obtain ⟨fn, tmps, assign, body, hy, hR⟩ := hyy
      dsimp only [encB] at hy
      gi_wp2
      refine (round_any hR).mono ?_
      rintro e W3 ⟨hk3, (⟨rfl, hJ3⟩ | ⟨rfl, hJx3⟩)⟩
      · gi_wp2
        go_end0
        exact ⟨⟨_, rfl⟩, .inl ⟨_, by rw [hp.out, hv.out], hJ3⟩⟩
      · gi_wp2
        go_end0
        exact ⟨⟨_, rfl⟩, .inr ⟨_, ⟨[], by rw [hp.out, hv.out]; simp⟩, hJx3⟩⟩

end Go.Proofs.YtcmagccfagijlaaGreat
