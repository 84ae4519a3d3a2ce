/-
  Walks over the reference of package weights: Varint, Halves.
-/
import Derived.Test.YtophgpnnjphnmaaGreatVE
namespace Go.Proofs.YtophgpnnjphnmaaGreat
set_option linter.unusedVariables false
set_option linter.unusedSimpArgs false
set_option linter.unusedSectionVars false
open Go.RowKit

theorem own_one (w : World) (x : Int) : (w.alloc (.cells #[.int .u8 x] 5)).ownsRow w.heap.size 5 1 (.slice (some ⟨w.heap.size, 0, none⟩) 1 1) 1 ([x].map (.int .u8)) :=
  ⟨rfl, .inr ⟨_, 1, _, rfl, Nat.le_refl _, heap_alloc_new w _, Nat.le_refl _, by decide, rfl, rfl⟩⟩

set_option maxRecDepth 100000 in
set_option maxHeartbeats 2000000 in
theorem r_varint (n : Nat) : ∀ (w : World), n < 18446744073709551616 → Calls Tryz.prog 44 #[.int .u64 (n : Int)] w fun e w' => ∃ v', e = .returned v' ∧ OwnB w' w.heap.size v' (varI n) ∧ Keeps w w' [] := by
  induction n using Nat.strongRecOn with
  | _ n ih =>
    intro w hn
    obtain ⟨i0, hi, hz0, hz1, hz2⟩ := info_parts Tryz.infoByte
    by_cases h128 : n < 128
    · have d1 : ((n : Int)) < 128 := by omega
      have hm : (n : Int) % 256 = n := by omega
      have hv := varI_small h128
      have HO := Lib.hid (own_one w n)
      have HV := Lib.hid hv
      clear hv ih
      go_enter Tryz.func44, Tryz.ntmps44
      go_wp2_with fail
      go_ret
      refine ⟨_, rfl, ?_, (Keeps.refl _ _).alloc _⟩
      rw [HV.out]
      exact HO.out
    · have d1 : decide ((n : Int) < 128) = false := decide_eq_false (by omega)
      obtain ⟨q, hqn⟩ : ∃ q, q = n / 128 := ⟨_, rfl⟩
      have hq : (n : Int) / 128 = (q : Int) := by omega
      have hv : varI n = ((n : Int) % 128 + 128) :: varI q := by
        rw [varI_step (by omega), hqn]
        congr 1
      have hll : (varI q).length ≤ 10 := varI_len 9 q (by omega)
      have HV := Lib.hid hv
      have HI := Lib.hid (fun w1 => ih q (by omega) w1 (by omega))
      have HO := Lib.hid (own_one w ((n : Int) % 128 + 128))
      clear ih hqn hv
      go_enter Tryz.func44, Tryz.ntmps44
      generalize hN : (varI q).length = N at hll
      have HN := Lib.hid hN
      go_wp2_with (first
        | (go_at_call 44; refine (HI.out _).mono ?_; rintro e w1 ⟨v1, rfl, own1, k1⟩; rw [OwnB, hN] at own1; obtain ⟨a1, c1, rfl⟩ := own_form own1; have R1 := Lib.hid (own_reads (l := varI q) (by rw [hN]; exact own1)); have OW := Lib.hid (own_keeps HO.out k1); have hs1 := k1.size; simp only [World.size_alloc] at hs1; have k0 := ((Keeps.refl w []).alloc (.cells #[.int .u8 ((n : Int) % 128 + 128)] 5)).then k1; clear own1 k1 hN)
        | (at_builtin; go_loud (refine wpList_appendI rfl _ _ 36 rfl w.heap.size 5 i0 (.int .u8 0) 1 Tryz.underlying36 hi hz0 hz1 hz2 rfl _ 1 _ rfl OW.out _ rfl .u8 (varI q) R1.out (by rw [HN.out]; unfold maxLen; omega) (by rw [HN.out]; omega) (by omega) ?_; intro v3 w3 own3 g3 _; obtain ⟨a3, c3, rfl⟩ := own_form own3)))
      go_ret
      refine ⟨_, rfl, ?_, k0.trans (Keeps.of_grown (S := [w.heap.size]) g3 (fun k hk => by cases hk; simp)) (fun j hj hlt => by have := List.mem_singleton.1 hj; omega)⟩
      rw [HV.out]
      rw [Nat.add_comm] at own3
      unfold OwnB
      rw [List.length_cons, List.map_cons]
      have e : (Value.slice a3 (1 + (varI q).length) c3) = .slice a3 ((varI q).length + 1) c3 := by rw [Nat.add_comm]
      show w3.ownsRow w.heap.size 5 1 (.slice a3 (1 + (varI q).length) c3) _ _
      rw [e]
      exact own3

set_option maxRecDepth 100000 in
set_option maxHeartbeats 2000000 in
theorem r_halves_no (v : Value) (l : List Int) (w : World) (hv : RdI .i64 w v l) (hn : l.length ≤ 1000000) (hok : okW l = false) : Calls Tryz.prog 23 #[v] w (BtEnd w [] 12) := by
  have hl := r_Last v l w hv hn
  rw [show lastOut l = 0 by simp [lastOut, hok], show treeErr l = 12 by simp [treeErr, hok]] at hl
  have HL := Lib.hid hl
  obtain ⟨A0, n, cp0, rfl, -, -⟩ := hv.form
  clear hv hl hok
  go_enter Tryz.func23, Tryz.ntmps23
  go_wp2_with (refine HL.out.mono ?_; rintro e w1 ⟨rfl, k1⟩)
  exact bodyPost_ret (v := .tuple #[.slice none 0 0, .int .i64 12]) (by simp [results, Tryz.results23]) rfl ⟨_, rfl, .nil, .nil, k1⟩

set_option maxRecDepth 100000 in
set_option maxHeartbeats 4000000 in
theorem r_halves_yes (v : Value) (l : List Int) (w : World) (hv : RdI .i64 w v l) (hl : l.length ≤ 1000000) (hok : okW l = true) : Calls Tryz.prog 23 #[v] w (BtEnd w (halvesL l) 0) := by
  obtain ⟨i0, hi, hz0, hz1, hz2⟩ := info_parts Tryz.infoByte
  have hll := r_Last v l w hv hl
  rw [show lastOut l = vW l by simp [lastOut, hok], show treeErr l = 0 by simp [treeErr, hok]] at hll
  have HL := Lib.hid hll
  have HV := Lib.hid hv
  have HX := Lib.hid (okW_bound hok)
  obtain ⟨ad, n, c, rfl, hn, -⟩ := hv.form
  have HR := Lib.hid (fun w1 => r_varint n w1 (by omega))
  have HE : Hid (halvesL l = (varI n ++ [0]) ++ nibF (l.take n)) := by show _ = _; rw [hn, List.take_length]; rfl
  have hlen := varI_len 9 n (by omega)
  have hvp := varI_pos n
  have HN := Lib.hid hn
  have hm : (n : Int) % 18446744073709551616 = n := by omega
  rw [← hn] at hl
  clear hv hn hll
  generalize (vW l : Int) = V at *
  generalize varI n = hd at *
  go_enter Tryz.func23, Tryz.ntmps23
  generalize hN1 : hd.length = N1 at *
  have HN1 := Lib.hid hN1
  clear hN1
  go_wp2_with (first
    | (go_at_call 21; refine HL.out.mono ?_; rintro e w1 ⟨rfl, k1⟩)
    | (go_at_call 44; refine (HR.out _).mono ?_; rintro e w2 ⟨v2, rfl, own2, k2⟩; rw [OwnB, HN1.out] at own2; obtain ⟨a2, c2, rfl⟩ := own_form own2; have OW := Lib.hid own2; have hs2 := k2.size; have hs1 := k1.size; clear own2)
    | (at_builtin; go_loud (refine wpList_app1 (w := w2) rfl _ _ 36 rfl w1.heap.size i0 Tryz.underlying36 hi hz0 hz1 hz2 (.slice a2 N1 c2) N1 hd 0 _ rfl rfl rfl OW.out (by omega) (by omega) ?_; intro a3 c3 w3 own3 k3; obtain ⟨g1, rfl, row1⟩ := rowB_own (by simp; exact HN1.out) (Nat.succ_pos _) own3)))
  have k3' : Keeps w w3 [] := keeps_row (k1.then k2) k3 (fun g hg => by have := (OW.out.lt g hg).1; omega)
  clear own3 k3 k1 k2
  go_loopw [6, 7] (fun v i wr => ∃ (k g N c5 : Nat), k ≤ n + 1 ∧ i = .int .i64 k ∧ v = .slice (some ⟨g, 0, none⟩) N c5 ∧ N ≤ 20 + k ∧ 0 < N ∧ k % 2 = 0 ∧ RowB wr w1.heap.size g N c5 (hd ++ [0] ++ nibF (l.take k)) ∧ Keeps w wr []) (fun _ i _ => n + 1 - (intOf i).toNat)
  case atStart => exact ⟨0, g1, _, c3, Nat.zero_le _, rfl, rfl, by omega, by omega, rfl, by simpa [nibF] using row1, k3'⟩
  case round =>
    clear row1 k3' OW HL HR
    obtain ⟨k, g, N, c5, hk, rfl, rfl, hN, hN0, hev, row, kk⟩ := hrel
    have hs := kk.size
    have hs1' := row.lt
    have hsr : w1.heap.size ≤ wr.heap.size := by omega
    by_cases hlt : k < n
    · obtain ⟨x, hx⟩ : ∃ x, l[k]? = some x := ⟨_, List.getElem?_eq_getElem (by have := HN.out; omega)⟩
      obtain ⟨b, o, rfl, hb, hc⟩ := HV.out.at hx
      have hc' := (kk.cell (p := ⟨b, o + k, none⟩) hb (by simp)).trans hc
      have hcap := HV.out.cap
      have hxb := HX.out x (List.mem_of_getElem? hx)
      have hkn : (k : Int) < (n : Int) := by omega
      have hm1 : x % 256 = x := by omega
      have ROW := Lib.hid row
      by_cases h1 : k + 1 < n
      · have h1' : (k : Int) + 1 < (n : Int) := by omega
        obtain ⟨y, hy⟩ : ∃ y, l[k + 1]? = some y := ⟨_, List.getElem?_eq_getElem (by have := HN.out; omega)⟩
        obtain ⟨b', o', he, hb', hcy⟩ := HV.out.at hy
        cases he
        have hcy' := (kk.cell (p := ⟨b, o + (k + 1), none⟩) hb' (by simp)).trans hcy
        have hyb := HX.out y (List.mem_of_getElem? hy)
        have hw1 : wrap64 (16 * y) = 16 * y := IntWalk.wrap64_in _ ⟨by omega, by omega⟩
        have hw2 : wrap64 (x + 16 * y) = x + 16 * y := IntWalk.wrap64_in _ ⟨by omega, by omega⟩
        have hm2 : (x + 16 * y) % 256 = x + 16 * y := by omega
        have HT := Lib.hid (nib_take2 hx hy hev)
        clear hx hc row hy hcy
        go_wp2_with (at_builtin; go_loud (refine wpList_app1 (w := wr) rfl _ _ 36 rfl w1.heap.size i0 Tryz.underlying36 hi hz0 hz1 hz2 (.slice (some ⟨g, 0, none⟩) N c5) N (hd ++ [0] ++ nibF (l.take k)) (x + 16 * y) _ rfl rfl rfl ROW.out.2 (by omega) (by omega) ?_; intro a3 c4 w4 own4 k3; obtain ⟨g3, rfl, row3⟩ := rowB_own (L := hd ++ [0] ++ nibF (l.take k) ++ [x + 16 * y]) (by have := ROW.out.1; simp only [List.length_append, List.length_singleton] at this ⊢; omega) (Nat.succ_pos _) own4))
        have kk3 := keeps_row kk k3 (fun g' hg => by have := (ROW.out.2.lt g' hg).1; omega)
        rw [List.append_assoc, ← HT.out] at row3
        clear own4 k3
        go_roundw
        case rel => exact ⟨k + 2, g3, N + 1, c4, by omega, by go_num, rfl, by omega, by omega, by omega, row3, kk3⟩
        case measure => simp [intOf]; omega
      · have h1' : decide ((k : Int) + 1 < (n : Int)) = false := decide_eq_false (by omega)
        have ht2 : l.take (k + 2) = l.take (k + 1) := by rw [List.take_of_length_le (by have := HN.out; omega), List.take_of_length_le (by have := HN.out; omega)]
        have HT := Lib.hid (nib_take1 hx hev)
        rw [← ht2] at HT
        clear hx hc row ht2
        go_wp2_with (at_builtin; go_loud (refine wpList_app1 (w := wr) rfl _ _ 36 rfl w1.heap.size i0 Tryz.underlying36 hi hz0 hz1 hz2 (.slice (some ⟨g, 0, none⟩) N c5) N (hd ++ [0] ++ nibF (l.take k)) x _ rfl rfl rfl ROW.out.2 (by omega) (by omega) ?_; intro a3 c4 w4 own4 k3; obtain ⟨g3, rfl, row3⟩ := rowB_own (L := hd ++ [0] ++ nibF (l.take k) ++ [x]) (by have := ROW.out.1; simp only [List.length_append, List.length_singleton] at this ⊢; omega) (Nat.succ_pos _) own4))
        have kk3 := keeps_row kk k3 (fun g' hg => by have := (ROW.out.2.lt g' hg).1; omega)
        rw [List.append_assoc, ← HT.out] at row3
        clear own4 k3
        go_roundw
        case rel => exact ⟨k + 2, g3, N + 1, c4, by omega, by go_num, rfl, by omega, by omega, by omega, row3, kk3⟩
        case measure => simp [intOf]; omega
    · have ht : l.take k = l.take n := by rw [List.take_of_length_le (by have := HN.out; omega), List.take_of_length_le (by have := HN.out; omega)]
      rw [ht, ← HE.out] at row
      have hkn : decide ((k : Int) < (n : Int)) = false := decide_eq_false (by omega)
      have hnl := row.1
      have hr := row.2
      rw [← hnl] at hr
      have R := Lib.hid (own_reads hr)
      rw [hnl] at R
      have hwg : w.heap.size ≤ g := by omega
      clear row hr hnl ht
      go_wp2_with fail
      refine bodyPost_ret (v := .tuple #[.slice (some ⟨g, 0, none⟩) N c5, .int .i64 0]) (by simp [results, Tryz.results23]) rfl ⟨_, rfl, R.out, (fun ad m c he => by cases he; exact hwg), kk⟩

theorem r_halves (v : Value) (l : List Int) (w : World) (hv : RdI .i64 w v l) (hn : l.length ≤ 1000000) : Calls Tryz.prog 23 #[v] w (BtEnd w (halfOut l) (treeErr l)) := by
  cases ht : okW l with
  | true => simpa [halfOut, treeErr, ht] using r_halves_yes v l w hv hn ht
  | false => simpa [halfOut, treeErr, ht] using r_halves_no v l w hv hn ht

end Go.Proofs.YtophgpnnjphnmaaGreat
