/-
  Walks over the reference of package tally: Counts.
-/
import Derived.Test.YtedojgbjfenmaaaT11
import Derived.StillTailTactics
import Derived.Laws.MakeOwn
namespace Go.Proofs.Ytedojgbjfenmaaa
set_option linter.unusedVariables false
set_option linter.unusedSimpArgs false
set_option linter.unusedSectionVars false
open Go.RowKit

theorem make256 (w : World) : (Instr.makeSlice 26 (.int .i64 256) (.int .i64 256)).run Try.prog w = .ok (.slice (some ⟨w.heap.size, 0, none⟩) 256 256) (w.alloc (.cells (ints (List.replicate 256 0)) 3)) := by kernel_rfl

set_option maxRecDepth 100000 in
set_option maxHeartbeats 2000000 in
theorem r_counts (v : Value) (l : List Int) (w : World) (hv : RdI .u8 w v l) (hb : ∀ x ∈ l, 0 ≤ x ∧ x ≤ 255) (hn : l.length ≤ 1000000) :
    Calls Try.prog 16 #[v] w (HistEnd w l) := by
  obtain ⟨A0, n, cp0, rfl, hnl, -⟩ := hv.form
  have HV := Lib.hid hv
  have HN := Lib.hid hnl
  have HB := Lib.hid hb
  have hn' : n ≤ 1000000 := by omega
  clear hv hnl hb hn
  have hmk := make256
  go_enter Try.func16, Try.ntmps16
  go_wp2_with fail
  have b0 := Blk.new w (ints (List.replicate 256 0)) 3
  have k0 := (Keeps.refl w []).alloc (.cells (ints (List.replicate 256 0)) 3)
  go_loopw [4] (fun i wr => ∃ (k : Nat), k ≤ n ∧ i = .int .i64 k ∧ Blk wr w.heap.size (ints (histL (l.take k))) 3 ∧ Keeps w wr []) (fun i _ => n - (intOf i).toNat)
  case atStart => exact ⟨0, Nat.zero_le _, rfl, b0, k0⟩
  case round =>
    clear b0 k0
    obtain ⟨k, hk, rfl, bk, kk⟩ := hrel
    by_cases hlt : k < n
    · obtain ⟨c, hcx⟩ : ∃ c, l[k]? = some c := ⟨_, List.getElem?_eq_getElem (by have := HN.out; omega)⟩
      have hcb := HB.out c (List.mem_of_getElem? hcx)
      obtain ⟨c, rfl⟩ := Int.eq_ofNat_of_zero_le hcb.1
      obtain ⟨bi, oi, rfl, hbi, hci⟩ := HV.out.at hcx
      have hcapi := HV.out.cap
      have hci' := (kk.cell (p := ⟨bi, oi + k, none⟩) hbi (by simp)).trans hci
      have hcj : Counts (histL (l.take k)) := Counts.histF (fun x hx => HB.out x (List.mem_of_mem_take hx)) Counts.zero
      obtain ⟨x, hx, hx0, hx1⟩ := hcj.get (i := c) (by omega)
      have hbc := (bk.cell c).trans (ints_get hx)
      have hbf := bk.frozen c
      have hst : Hid (histL (l.take (k + 1)) = (histL (l.take k)).set c (if x + 1 < 2147483648 then x + 1 else 2147483648)) := by
        show _ = _
        have hg : (histL (l.take k)).getD c 0 = x := by simp [List.getD, hx]
        unfold histL at hg ⊢
        rw [take_next hcx, histF_snoc, bump, Int.toNat_natCast, hg]
      have hc256 : (c : Int) < 256 := by omega
      have hc0 : (0 : Int) ≤ (c : Int) := Int.natCast_nonneg _
      have bset : ∀ y : Int, Blk (wr.drew.setCell ⟨w.heap.size, c, none⟩ (.int .i64 y)) w.heap.size (ints ((histL (l.take k)).set c y)) 3 := fun y => by rw [← ints_set]; exact (bk.drew).set c (.int .i64 y)
      have hki : (k : Int) < (n : Int) := by omega
      have hk0 : (0 : Int) ≤ (k : Int) := Int.natCast_nonneg _
      have hlw := bk.lt
      clear hcx hx hci hcj
      have e1 : IntKind.i64.wrap (x + 1) = x + 1 := IntWalk.i64_in _ (by omega)
      have e2 : IntKind.i64.wrap (c : Int) = (c : Int) := IntWalk.i64_in _ (by omega)
      by_cases hmin : x + 1 < 2147483648
      · rw [if_pos hmin] at hst
        go_wp2_with fail
        go_still_tail 17, (by kernel_rfl)
        change wpList _ _ _ _ _ wr.drew
        go_wp2_with fail
        go_roundw
        case rel => exact ⟨k + 1, by omega, by go_num, by rw [hst.out]; exact bset _, kk.drew.setCell (.inl (Nat.le_refl _)) _⟩
        case measure => simp [intOf]; omega
      · rw [if_neg hmin] at hst
        have hmin' : 2147483648 ≤ x + 1 := by omega
        have hmin2 : decide (x + 1 < 2147483648) = false := by simpa using hmin
        go_wp2_with fail
        go_still_tail 17, (by kernel_rfl)
        change wpList _ _ _ _ _ wr.drew
        go_wp2_with fail
        go_roundw
        case rel => exact ⟨k + 1, by omega, by go_num, by rw [hst.out]; exact bset _, kk.drew.setCell (.inl (Nat.le_refl _)) _⟩
        case measure => simp [intOf]; omega
    · have : k = n := by omega
      subst this
      have hlen : (histL (l.take k)).length = 256 := by unfold histL; rw [histF_len]; exact List.length_replicate
      have hrd := blk_reads bk
      rw [hlen] at hrd
      rw [HN.out, List.take_length] at hrd
      have HRD := Lib.hid hrd
      clear hrd hlen bk
      go_wp2_with fail
      go_ret
      exact ⟨_, rfl, HRD.out, kk⟩

end Go.Proofs.Ytedojgbjfenmaaa
