/-
  Walks over package tally: Histogram.
-/
import Derived.Test.YtedojgbjfenmaaaT2
import Derived.Test.YtedojgbjfenmaaaT10
namespace Go.Proofs.Ytedojgbjfenmaaa
set_option linter.unusedVariables false
set_option linter.unusedSimpArgs false
set_option linter.unusedSectionVars false
open Go.RowKit

theorem zeros256 : Try.zeroCells58 = ints (List.replicate 256 0) := by kernel_rfl
/-- What Histogram and its reference hand back. -/
def HistEnd (w : World) (l : List Int) (e : Ending) (w' : World) : Prop := ∃ v, e = .returned v ∧ RdI .i64 w' v (histL l) ∧ Keeps w w' []

theorem blk_reads {w : World} {B : Nat} {h : List Int} {T : TypeId} (hb : Blk w B (ints h) T) : RdI .i64 w (.slice (some ⟨B, 0, none⟩) h.length h.length) h :=
  ⟨_, _, _, rfl, rfl, (fun h => by cases h), fun h0 => ⟨Nat.le_refl _, B, 0, rfl, hb.lt, fun i x hx => by rw [Nat.zero_add, hb.cell, ints_get hx]⟩⟩

set_option maxRecDepth 100000 in
set_option maxHeartbeats 2000000 in
theorem hist_call (v : Value) (ls : List (List Int)) (w : World) (hv : RdL .u8 w v ls) (hb : ∀ l ∈ ls, ∀ x ∈ l, 0 ≤ x ∧ x ≤ 255) (hn : ls.length ≤ 1000000) (hm : ∀ l ∈ ls, l.length ≤ 1000000) :
    Calls Try.prog 15 #[v] w (HistEnd w ls.flatten) := by
  obtain ⟨A0, n, cp0, rfl, hnl, -⟩ := hv.form
  have HV := Lib.hid hv
  have HN := Lib.hid hnl
  have HB := Lib.hid hb
  have HM := Lib.hid hm
  have hn' : n ≤ 1000000 := by omega
  clear hv hnl hb hm hn
  go_enter Try.func15, Try.ntmps15
  go_wp2_with fail
  have b0 := Blk.new w (ints (List.replicate 256 0)) 58
  rw [zeros256]
  have k0 := (Keeps.refl w []).alloc (.cells (ints (List.replicate 256 0)) 58)
  go_loopw [10] (fun i wr => ∃ (k : Nat), k ≤ n ∧ i = .int .i64 k ∧ Blk wr w.heap.size (ints (histL (ls.take k).flatten)) 58 ∧ Keeps w wr []) (fun i _ => n - (intOf i).toNat)
  case atStart => exact ⟨0, Nat.zero_le _, rfl, b0, k0⟩
  case round =>
    clear b0 k0
    obtain ⟨k, hk, rfl, bk, kk⟩ := hrel
    by_cases hlt : k < n
    · obtain ⟨l, hl⟩ : ∃ l, ls[k]? = some l := ⟨_, List.getElem?_eq_getElem (by have := HN.out; omega)⟩
      obtain ⟨b, o, vi, rfl, hb, hc0, hvi, hcap⟩ := HV.out.at hl
      have hc := (kk.cell (p := ⟨b, o + k, none⟩) hb (by simp)).trans hc0
      obtain ⟨ai, ni, ci, rfl, hni, -⟩ := hvi.form
      have hmem := List.mem_of_getElem? hl
      have hlb := HB.out l hmem
      have hlm := HM.out l hmem
      have hni' : ni ≤ 1000000 := by omega
      have hH : Hid (histL (ls.take (k + 1)).flatten = histF (histL (ls.take k).flatten) l) := by
        show _ = _
        rw [List.take_add_one, hl]
        simp [histL, histF_append]
      have hcount : Counts (histL (ls.take k).flatten) := Counts.histF (fun x hx => by
        obtain ⟨m, hm1, hm2⟩ := List.mem_flatten.1 hx
        exact HB.out m (List.mem_of_mem_take hm1) x hm2) Counts.zero
      have HVI := Lib.hid hvi
      have HNI := Lib.hid hni
      have HLB := Lib.hid hlb
      have hlw := bk.lt
      clear hl hvi hni hlb hlm hmem hc0
      generalize histL (ls.take k).flatten = H at *
      have HC := Lib.hid hcount
      clear hcount
      obtain ⟨wo, rfl⟩ : ∃ wo : World, wo = wr := ⟨_, rfl⟩
      go_wp2_with fail
      go_loopw [16] (fun i wr => ∃ (j : Nat), j ≤ ni ∧ i = .int .i64 j ∧ Blk wr w.heap.size (ints (histF H (l.take j))) 58 ∧ Keeps wo wr [w.heap.size]) (fun i _ => ni - (intOf i).toNat)
      case atStart => exact ⟨0, Nat.zero_le _, rfl, bk, Keeps.refl _ _⟩
      case round =>
        clear bk
        obtain ⟨j, hj, rfl, bj, kj⟩ := hrel
        by_cases hjt : j < ni
        · obtain ⟨c, hcx⟩ : ∃ c, l[j]? = some c := ⟨_, List.getElem?_eq_getElem (by have := HNI.out; omega)⟩
          have hcb := HLB.out c (List.mem_of_getElem? hcx)
          obtain ⟨c, rfl⟩ := Int.eq_ofNat_of_zero_le hcb.1
          obtain ⟨bi, oi, rfl, hbi, hci⟩ := HVI.out.at hcx
          have hcapi := HVI.out.cap
          have hci' := (kj.cell (p := ⟨bi, oi + j, none⟩) (Nat.lt_of_lt_of_le hbi kk.size) (fun hm => by have h1 := List.mem_singleton.1 hm; dsimp only at h1; omega)).trans ((kk.cell (p := ⟨bi, oi + j, none⟩) hbi (by simp)).trans hci)
          have hcj : Counts (histF H (l.take j)) := HC.out.histF (fun x hx => HLB.out x (List.mem_of_mem_take hx))
          obtain ⟨x, hx, hx0, hx1⟩ := hcj.get (i := c) (by omega)
          have hbc := (bj.cell c).trans (ints_get hx)
          have hbf := bj.frozen c
          have hst : Hid (histF H (l.take (j + 1)) = (histF H (l.take j)).set c (if x + 1 < 2147483648 then x + 1 else 2147483648)) := by
            show _ = _
            have hg : (histF H (l.take j)).getD c 0 = x := by simp [List.getD, hx]
            rw [take_next hcx, histF_snoc, bump, Int.toNat_natCast, hg]
          have hc255 : (c : Int) < 256 := by omega
          have bset : ∀ y : Int, Blk (wr.setCell ⟨w.heap.size, c, none⟩ (.int .i64 y)) w.heap.size (ints ((histF H (l.take j)).set c y)) 58 := fun y => by rw [← ints_set]; exact bj.set c (.int .i64 y)
          have hji : (j : Int) < (ni : Int) := by omega
          clear hcx hx hci
          by_cases hmin : x + 1 < 2147483648
          · rw [if_pos hmin] at hst
            go_wp2_with fail
            go_roundw
            case rel => exact ⟨j + 1, by omega, by go_num, by rw [hst.out]; exact bset _, kj.setCell (.inr (by simp)) _⟩
            case measure => simp [intOf]; omega
          · rw [if_neg hmin] at hst
            have hmin' : 2147483648 ≤ x + 1 := by omega
            go_wp2_with fail
            go_roundw
            case rel => exact ⟨j + 1, by omega, by go_num, by rw [hst.out]; exact bset _, kj.setCell (.inr (by simp)) _⟩
            case measure => simp [intOf]; omega
        · have : j = ni := by omega
          subst this
          go_wp2_with fail
          go_roundw
          case rel =>
            refine ⟨k + 1, by omega, by go_num, ?_, ?_⟩
            · rw [hH.out]
              rw [HNI.out, List.take_length] at bj
              exact bj
            · exact kk.trans kj (fun x hx hlt => by have := List.mem_singleton.1 hx; omega)
          case measure => simp [intOf]; omega
    · have : k = n := by omega
      subst this
      have hl := bk.lt
      have hlen : (histL (ls.take k).flatten).length = 256 := by unfold histL; rw [histF_len]; exact List.length_replicate
      have hrd := blk_reads bk
      rw [hlen] at hrd
      rw [HN.out, List.take_length] at hrd
      have HRD := Lib.hid hrd
      clear hrd hlen bk
      go_wp2_with fail
      go_ret
      exact ⟨_, rfl, HRD.out, kk⟩

end Go.Proofs.Ytedojgbjfenmaaa
