/-
  Walks over package weights: ways, described, EncodePacked.
  Walks over the reference of package weights: Varint, Halves.
  The law's helpers same, no, gets.
-/
import Derived.Test.YtophgpnnjphnmaaGreatQ9
import Derived.Test.YtophgpnnjphnmaaGreatQ21
import Derived.Test.YtophgpnnjphnmaaGreatQ32
import Derived.Laws.EntriesVeiled
import Derived.Test.YtophgpnnjphnmaaGreatQ28
namespace Go.Proofs.YtophgpnnjphnmaaGreat
section
set_option linter.unusedVariables false
set_option linter.unusedSimpArgs false
set_option linter.unusedSectionVars false
open Go.RowKit

/-- A call returns bytes and an error, and leaves the memory that was there. -/
def BtEnd (w : World) (l : List Int) (n : Int) (e : Ending) (w' : World) : Prop := ∃ v, e = .returned (.tuple #[v, .int .i64 n]) ∧ RdI .u8 w' v l ∧ Fresh w.heap.size v ∧ Keeps w w' []

theorem okW_bound {l : List Int} (h : okW l = true) : ∀ x ∈ l, 0 ≤ x ∧ x ≤ 11 := by
  intro x hx
  simp only [okW, Bool.and_eq_true] at h
  exact finM_iff.1 (List.all_eq_true.1 h.1.1.2 x hx)

set_option maxRecDepth 100000 in
theorem ways_any (w : World) : Calls Tryz.prog 60 #[] w fun e w' => e = .returned (.agg #[.func (.func 80) #[] #[], .func (.func 81) #[] #[]]) ∧ Keeps w w' [] := by
  go_enter Tryz.func60, Tryz.ntmps60
  go_wp2_with fail
  refine bodyPost_ret (v := .agg #[.func (.func 80) #[] #[], .func (.func 81) #[] #[]]) (by simp only [results, Tryz.results60]; go_simp) rfl ⟨rfl, (Keeps.refl _ _).alloc _⟩

set_option maxRecDepth 100000 in
set_option maxHeartbeats 2000000 in
theorem described_yes (v : Value) (l : List Int) (w : World) (hv : RdI .i64 w v l) (hn : l.length ≤ 1000000) (ht : okW l = true) : Calls Tryz.prog 43 #[v, .int .i64 0] w (BtEnd w (halvesL l) 0) := by
  have hmf : ∀ (fn : Fn) (first cap : Array Value) (w : World), (Instr.makeFunc fn first cap).run Tryz.prog w = .ok (.func fn first cap) w := fun _ _ _ _ => rfl
  have HO := Lib.hid (fun w' (k : Keeps w w' []) => (wtree_any v l w' (hv.keeps k) hn).mono fun e w'' h => (⟨h.2.1 ht, h.1⟩ : (∃ v, e = .returned (.tuple #[v, .int .i64 (vW l)]) ∧ RdI .i64 w'' v (tOf l) ∧ Fresh w'.heap.size v) ∧ Keeps w' w'' []))
  have HH := Lib.hid (fun w' (k : Keeps w w' []) => halved_any v l w' (hv.keeps k) hn (okW_bound ht))
  have hix : ∀ w : World, (Instr.index 80 (.agg #[.func (.func 80) #[] #[], .func (.func 81) #[] #[]]) (.int .i64 0)).run Tryz.prog w = .ok (.func (.func 80) #[] #[]) w := fun w => by simp [Instr.index, go_sem]
  obtain ⟨A0, n, cp0, rfl, -, -⟩ := hv.form
  clear hv ht
  generalize vW l = V at *
  go_enter_defers Tryz.func43, Tryz.ntmps43
  go_wp2_with fail
  have k0 : Keeps w ((w.alloc (.cells #[.slice none 0 0] 36)).alloc (.cells #[.int .i64 0] 24)) [] := ((Keeps.refl w []).alloc _).alloc _
  have bo := (Blk.new w #[.slice none 0 0] 36).alloc (.cells #[.int .i64 0] 24)
  have be := Blk.new (w.alloc (.cells #[.slice none 0 0] 36)) #[.int .i64 0] 24
  simp only [World.size_alloc] at be
  refine (HO.out _ k0).mono ?_
  rintro e w1 ⟨⟨v1, rfl, r1, f1⟩, k1⟩
  clear r1 f1
  replace bo := bo.keeps k1 (by simp)
  replace be := be.keeps k1 (by simp)
  replace k0 := k0.then k1
  clear k1
  go_wp2_with (go_at_call 60; refine (ways_any _).mono ?_; rintro e w2 ⟨rfl, k2⟩)
  have k2' := k0.then k2
  have hs12' : Hid (w.heap.size + 2 ≤ w2.heap.size) := by have := (be.keeps k2 (by simp)).lt; exact (by omega : w.heap.size + 2 ≤ w2.heap.size)
  replace bo := bo.keeps k2 (by simp)
  replace be := be.keeps k2 (by simp)
  go_wp2_with fail
  refine (HH.out _ k2').mono ?_
  rintro e w3 ⟨v3, rfl, own3, k3⟩
  obtain ⟨a3, c3, rfl⟩ := own_form own3
  replace bo := bo.keeps k3 (by simp)
  replace be := be.keeps k3 (by simp)
  have hs2 := k2'.size
  have lbe := be.lt
  have hs12 : w.heap.size + 2 ≤ w2.heap.size := hs12'.out
  replace k0 := k2'.then k3
  clear k2 k2' k3
  obtain ⟨e0, e1⟩ := be.one
  obtain ⟨o0, o1⟩ := bo.one
  have R1 := Lib.hid (own_reads own3)
  have F1 := Lib.hid (own_freshB own3)
  have hlen : (halvesL l).length = (halvesL l).length := rfl
  clear own3 hlen
  generalize (halvesL l).length = N at *
  go_wp2_with fail
  refine leaves_cons (f := 35) (args := #[.pointer (some ⟨w.heap.size + 1, 0, none⟩), .func (.func 66) #[] #[.pointer (some ⟨w.heap.size, 0, none⟩)]]) (by simp) (by simp [go_sem]) ?_
  refine (wcaught_idle _ _ _).mono ?_
  rintro e u' w'' ⟨rfl, rfl, rfl⟩
  refine ⟨.tuple #[.slice a3 N c3, .int .i64 0], by simp only [results, Tryz.results43]; go_simp, ?_⟩
  refine ⟨_, rfl, R1.out.keepsS (S := [w.heap.size, w.heap.size + 1]) (by repeat (first | exact Keeps.refl _ _ | refine Keeps.setCell' (.inr (by simp)) ?_)) (fun ad m c he _ hm => ?_), F1.out.mono hs2, by repeat (first | exact k0 | refine Keeps.setCell' (.inl (by dsimp only; omega)) ?_)⟩
  have := F1.out ad m c he
  simp at hm
  omega

set_option maxRecDepth 100000 in
set_option maxHeartbeats 2000000 in
theorem described_no (v : Value) (l : List Int) (way : Int) (w : World) (hv : RdI .i64 w v l) (hn : l.length ≤ 1000000) (ht : okW l = false) : Calls Tryz.prog 43 #[v, .int .i64 way] w (BtEnd w [] 12) := by
  have hmf : ∀ (fn : Fn) (first cap : Array Value) (w : World), (Instr.makeFunc fn first cap).run Tryz.prog w = .ok (.func fn first cap) w := fun _ _ _ _ => rfl
  have HO := Lib.hid (fun w' (k : Keeps w w' []) => (wtree_any v l w' (hv.keeps k) hn).mono fun e w'' h => (⟨h.2.2 ht, h.1⟩ : e = .panicked [raisedBy 12 false] ∧ Keeps w' w'' []))
  obtain ⟨A0, n, cp0, rfl, -, -⟩ := hv.form
  clear hv ht
  go_enter_defers Tryz.func43, Tryz.ntmps43
  go_wp2_with fail
  have k0 : Keeps w ((w.alloc (.cells #[.slice none 0 0] 36)).alloc (.cells #[.int .i64 0] 24)) [] := ((Keeps.refl w []).alloc _).alloc _
  have bo := (Blk.new w #[.slice none 0 0] 36).alloc (.cells #[.int .i64 0] 24)
  have be := Blk.new (w.alloc (.cells #[.slice none 0 0] 36)) #[.int .i64 0] 24
  simp only [World.size_alloc] at be
  refine (HO.out _ k0).mono ?_
  rintro e w1 ⟨rfl, k1⟩
  replace bo := bo.keeps k1 (by simp)
  replace be := be.keeps k1 (by simp)
  replace k0 := k0.then k1
  clear k1
  obtain ⟨e0, e1⟩ := be.one
  obtain ⟨o0, o1⟩ := bo.one
  go_wp2_with fail
  refine leaves_cons (f := 35) (args := #[.pointer (some ⟨w.heap.size + 1, 0, none⟩), .func (.func 66) #[] #[.pointer (some ⟨w.heap.size, 0, none⟩)]]) (by simp) (by simp [go_sem]) ?_
  refine (wcaught_desc _ _ 12 _ _ _ _ [] _ be bo (by omega)).mono ?_
  rintro e u' w'' ⟨rfl, rfl, rfl⟩
  refine ⟨.tuple #[.slice none 0 0, .int .i64 12], by simp only [results, Tryz.results43]; go_simp, ?_⟩
  refine ⟨_, rfl, .nil, .nil, ?_⟩
  exact Keeps.setCell' (.inl (by dsimp only; omega)) (Keeps.setCell' (.inl (by dsimp only; omega)) k0)

def halfOut (l : List Int) : List Int := if okW l then halvesL l else []

set_option maxRecDepth 100000 in
theorem packed_any (v : Value) (l : List Int) (w : World) (hv : RdI .i64 w v l) (hn : l.length ≤ 1000000) : Calls Tryz.prog 22 #[v] w (BtEnd w (halfOut l) (treeErr l)) := by
  have hd : Calls Tryz.prog 43 #[v, .int .i64 0] w (BtEnd w (halfOut l) (treeErr l)) := by
    cases ht : okW l with
    | true => simpa [halfOut, treeErr, ht] using described_yes v l w hv hn ht
    | false => simpa [halfOut, treeErr, ht] using described_no v l 0 w hv hn ht
  have HD := Lib.hid hd
  obtain ⟨A0, n, cp0, rfl, -, -⟩ := hv.form
  clear hv hd
  generalize treeErr l = E at *
  go_enter Tryz.func22, Tryz.ntmps22
  go_wp2_with (refine HD.out.mono ?_; rintro e w1 ⟨v1, rfl, r1, f1, k1⟩)
  exact bodyPost_ret (v := .tuple #[v1, .int .i64 E]) (by simp [results, Tryz.results22]) rfl ⟨v1, rfl, r1, f1, k1⟩
end

section
set_option linter.unusedVariables false
set_option linter.unusedSimpArgs false
set_option linter.unusedSectionVars false
open Go.RowKit

theorem own_one (w : World) (x : Int) : (w.alloc (.cells #[.int .u8 x] 5)).ownsRow w.heap.size 5 1 (.slice (some ⟨w.heap.size, 0, none⟩) 1 1) 1 ([x].map (.int .u8)) :=
  ⟨rfl, .inr ⟨_, 1, _, rfl, Nat.le_refl _, heap_alloc_new w _, Nat.le_refl _, by decide, rfl, rfl⟩⟩

set_option maxRecDepth 100000 in
set_option maxHeartbeats 2000000 in
theorem r_varint (n : Nat) : ∀ (w : World), n < 18446744073709551616 → Calls Tryz.prog 44 #[.int .u64 (n : Int)] w fun e w' => ∃ v', e = .returned v' ∧ OwnB w' w.heap.size v' (varI n) ∧ Keeps w w' [] := by
  induction n using Nat.strongRecOn with
  | _ n ih =>
    intro w hn
    obtain ⟨i0, hi, hz0, hz1, hz2⟩ := info_parts Tryz.infoByte
    by_cases h128 : n < 128
    · have d1 : ((n : Int)) < 128 := by omega
      have hm : (n : Int) % 256 = n := by omega
      have hv := varI_small h128
      have HO := Lib.hid (own_one w n)
      have HV := Lib.hid hv
      clear hv ih
      go_enter Tryz.func44, Tryz.ntmps44
      go_wp2_with fail
      go_ret
      refine ⟨_, rfl, ?_, (Keeps.refl _ _).alloc _⟩
      rw [HV.out]
      exact HO.out
    · have d1 : decide ((n : Int) < 128) = false := decide_eq_false (by omega)
      obtain ⟨q, hqn⟩ : ∃ q, q = n / 128 := ⟨_, rfl⟩
      have hq : (n : Int) / 128 = (q : Int) := by omega
      have hv : varI n = ((n : Int) % 128 + 128) :: varI q := by
        rw [varI_step (by omega), hqn]
        congr 1
      have hll : (varI q).length ≤ 10 := varI_len 9 q (by omega)
      have HV := Lib.hid hv
      have HI := Lib.hid (fun w1 => ih q (by omega) w1 (by omega))
      have HO := Lib.hid (own_one w ((n : Int) % 128 + 128))
      clear ih hqn hv
      go_enter Tryz.func44, Tryz.ntmps44
      generalize hN : (varI q).length = N at hll
      have HN := Lib.hid hN
      go_wp2_with (first
        | (go_at_call 44; refine (HI.out _).mono ?_; rintro e w1 ⟨v1, rfl, own1, k1⟩; rw [OwnB, hN] at own1; obtain ⟨a1, c1, rfl⟩ := own_form own1; have R1 := Lib.hid (own_reads (l := varI q) (by rw [hN]; exact own1)); have OW := Lib.hid (own_keeps HO.out k1); have hs1 := k1.size; simp only [World.size_alloc] at hs1; have k0 := ((Keeps.refl w []).alloc (.cells #[.int .u8 ((n : Int) % 128 + 128)] 5)).then k1; clear own1 k1 hN)
        | (at_builtin; go_loud (refine wpList_appendI rfl _ _ 36 rfl w.heap.size 5 i0 (.int .u8 0) 1 Tryz.underlying36 hi hz0 hz1 hz2 rfl _ 1 _ rfl OW.out _ rfl .u8 (varI q) R1.out (by rw [HN.out]; unfold maxLen; omega) (by rw [HN.out]; omega) (by omega) ?_; intro v3 w3 own3 g3 _; obtain ⟨a3, c3, rfl⟩ := own_form own3)))
      go_ret
      refine ⟨_, rfl, ?_, k0.trans (Keeps.of_grown (S := [w.heap.size]) g3 (fun k hk => by cases hk; simp)) (fun j hj hlt => by have := List.mem_singleton.1 hj; omega)⟩
      rw [HV.out]
      rw [Nat.add_comm] at own3
      unfold OwnB
      rw [List.length_cons, List.map_cons]
      have e : (Value.slice a3 (1 + (varI q).length) c3) = .slice a3 ((varI q).length + 1) c3 := by rw [Nat.add_comm]
      show w3.ownsRow w.heap.size 5 1 (.slice a3 (1 + (varI q).length) c3) _ _
      rw [e]
      exact own3

set_option maxRecDepth 100000 in
set_option maxHeartbeats 2000000 in
theorem r_halves_no (v : Value) (l : List Int) (w : World) (hv : RdI .i64 w v l) (hn : l.length ≤ 1000000) (hok : okW l = false) : Calls Tryz.prog 23 #[v] w (BtEnd w [] 12) := by
  have hl := r_Last v l w hv hn
  rw [show lastOut l = 0 by simp [lastOut, hok], show treeErr l = 12 by simp [treeErr, hok]] at hl
  have HL := Lib.hid hl
  obtain ⟨A0, n, cp0, rfl, -, -⟩ := hv.form
  clear hv hl hok
  go_enter Tryz.func23, Tryz.ntmps23
  go_wp2_with (refine HL.out.mono ?_; rintro e w1 ⟨rfl, k1⟩)
  exact bodyPost_ret (v := .tuple #[.slice none 0 0, .int .i64 12]) (by simp [results, Tryz.results23]) rfl ⟨_, rfl, .nil, .nil, k1⟩

set_option maxRecDepth 100000 in
set_option maxHeartbeats 4000000 in
theorem r_halves_yes (v : Value) (l : List Int) (w : World) (hv : RdI .i64 w v l) (hl : l.length ≤ 1000000) (hok : okW l = true) : Calls Tryz.prog 23 #[v] w (BtEnd w (halvesL l) 0) := by
  obtain ⟨i0, hi, hz0, hz1, hz2⟩ := info_parts Tryz.infoByte
  have hll := r_Last v l w hv hl
  rw [show lastOut l = vW l by simp [lastOut, hok], show treeErr l = 0 by simp [treeErr, hok]] at hll
  have HL := Lib.hid hll
  have HV := Lib.hid hv
  have HX := Lib.hid (okW_bound hok)
  obtain ⟨ad, n, c, rfl, hn, -⟩ := hv.form
  have HR := Lib.hid (fun w1 => r_varint n w1 (by omega))
  have HE : Hid (halvesL l = (varI n ++ [0]) ++ nibF (l.take n)) := by show _ = _; rw [hn, List.take_length]; rfl
  have hlen := varI_len 9 n (by omega)
  have hvp := varI_pos n
  have HN := Lib.hid hn
  have hm : (n : Int) % 18446744073709551616 = n := by omega
  rw [← hn] at hl
  clear hv hn hll
  generalize (vW l : Int) = V at *
  generalize varI n = hd at *
  go_enter Tryz.func23, Tryz.ntmps23
  generalize hN1 : hd.length = N1 at *
  have HN1 := Lib.hid hN1
  clear hN1
  go_wp2_with (first
    | (go_at_call 21; refine HL.out.mono ?_; rintro e w1 ⟨rfl, k1⟩)
    | (go_at_call 44; refine (HR.out _).mono ?_; rintro e w2 ⟨v2, rfl, own2, k2⟩; rw [OwnB, HN1.out] at own2; obtain ⟨a2, c2, rfl⟩ := own_form own2; have OW := Lib.hid own2; have hs2 := k2.size; have hs1 := k1.size; clear own2)
    | (at_builtin; go_loud (refine wpList_app1 (w := w2) rfl _ _ 36 rfl w1.heap.size i0 Tryz.underlying36 hi hz0 hz1 hz2 (.slice a2 N1 c2) N1 hd 0 _ rfl rfl rfl OW.out (by omega) (by omega) ?_; intro a3 c3 w3 own3 k3; obtain ⟨g1, rfl, row1⟩ := rowB_own (by simp; exact HN1.out) (Nat.succ_pos _) own3)))
  have k3' : Keeps w w3 [] := keeps_row (k1.then k2) k3 (fun g hg => by have := (OW.out.lt g hg).1; omega)
  clear own3 k3 k1 k2
  go_loopw [6, 7] (fun v i wr => ∃ (k g N c5 : Nat), k ≤ n + 1 ∧ i = .int .i64 k ∧ v = .slice (some ⟨g, 0, none⟩) N c5 ∧ N ≤ 20 + k ∧ 0 < N ∧ k % 2 = 0 ∧ RowB wr w1.heap.size g N c5 (hd ++ [0] ++ nibF (l.take k)) ∧ Keeps w wr []) (fun _ i _ => n + 1 - (intOf i).toNat)
  case atStart => exact ⟨0, g1, _, c3, Nat.zero_le _, rfl, rfl, by omega, by omega, rfl, by simpa [nibF] using row1, k3'⟩
  case round =>
    clear row1 k3' OW HL HR
    obtain ⟨k, g, N, c5, hk, rfl, rfl, hN, hN0, hev, row, kk⟩ := hrel
    have hs := kk.size
    have hs1' := row.lt
    have hsr : w1.heap.size ≤ wr.heap.size := by omega
    by_cases hlt : k < n
    · obtain ⟨x, hx⟩ : ∃ x, l[k]? = some x := ⟨_, List.getElem?_eq_getElem (by have := HN.out; omega)⟩
      obtain ⟨b, o, rfl, hb, hc⟩ := HV.out.at hx
      have hc' := (kk.cell (p := ⟨b, o + k, none⟩) hb (by simp)).trans hc
      have hcap := HV.out.cap
      have hxb := HX.out x (List.mem_of_getElem? hx)
      have hkn : (k : Int) < (n : Int) := by omega
      have hm1 : x % 256 = x := by omega
      have ROW := Lib.hid row
      by_cases h1 : k + 1 < n
      · have h1' : (k : Int) + 1 < (n : Int) := by omega
        obtain ⟨y, hy⟩ : ∃ y, l[k + 1]? = some y := ⟨_, List.getElem?_eq_getElem (by have := HN.out; omega)⟩
        obtain ⟨b', o', he, hb', hcy⟩ := HV.out.at hy
        cases he
        have hcy' := (kk.cell (p := ⟨b, o + (k + 1), none⟩) hb' (by simp)).trans hcy
        have hyb := HX.out y (List.mem_of_getElem? hy)
        have hw1 : wrap64 (16 * y) = 16 * y := IntWalk.wrap64_in _ ⟨by omega, by omega⟩
        have hw2 : wrap64 (x + 16 * y) = x + 16 * y := IntWalk.wrap64_in _ ⟨by omega, by omega⟩
        have hm2 : (x + 16 * y) % 256 = x + 16 * y := by omega
        have HT := Lib.hid (nib_take2 hx hy hev)
        clear hx hc row hy hcy
        go_wp2_with (at_builtin; go_loud (refine wpList_app1 (w := wr) rfl _ _ 36 rfl w1.heap.size i0 Tryz.underlying36 hi hz0 hz1 hz2 (.slice (some ⟨g, 0, none⟩) N c5) N (hd ++ [0] ++ nibF (l.take k)) (x + 16 * y) _ rfl rfl rfl ROW.out.2 (by omega) (by omega) ?_; intro a3 c4 w4 own4 k3; obtain ⟨g3, rfl, row3⟩ := rowB_own (L := hd ++ [0] ++ nibF (l.take k) ++ [x + 16 * y]) (by have := ROW.out.1; simp only [List.length_append, List.length_singleton] at this ⊢; omega) (Nat.succ_pos _) own4))
        have kk3 := keeps_row kk k3 (fun g' hg => by have := (ROW.out.2.lt g' hg).1; omega)
        rw [List.append_assoc, ← HT.out] at row3
        clear own4 k3
        go_roundw
        case rel => exact ⟨k + 2, g3, N + 1, c4, by omega, by go_num, rfl, by omega, by omega, by omega, row3, kk3⟩
        case measure => simp [intOf]; omega
      · have h1' : decide ((k : Int) + 1 < (n : Int)) = false := decide_eq_false (by omega)
        have ht2 : l.take (k + 2) = l.take (k + 1) := by rw [List.take_of_length_le (by have := HN.out; omega), List.take_of_length_le (by have := HN.out; omega)]
        have HT := Lib.hid (nib_take1 hx hev)
        rw [← ht2] at HT
        clear hx hc row ht2
        go_wp2_with (at_builtin; go_loud (refine wpList_app1 (w := wr) rfl _ _ 36 rfl w1.heap.size i0 Tryz.underlying36 hi hz0 hz1 hz2 (.slice (some ⟨g, 0, none⟩) N c5) N (hd ++ [0] ++ nibF (l.take k)) x _ rfl rfl rfl ROW.out.2 (by omega) (by omega) ?_; intro a3 c4 w4 own4 k3; obtain ⟨g3, rfl, row3⟩ := rowB_own (L := hd ++ [0] ++ nibF (l.take k) ++ [x]) (by have := ROW.out.1; simp only [List.length_append, List.length_singleton] at this ⊢; omega) (Nat.succ_pos _) own4))
        have kk3 := keeps_row kk k3 (fun g' hg => by have := (ROW.out.2.lt g' hg).1; omega)
        rw [List.append_assoc, ← HT.out] at row3
        clear own4 k3
        go_roundw
        case rel => exact ⟨k + 2, g3, N + 1, c4, by omega, by go_num, rfl, by omega, by omega, by omega, row3, kk3⟩
        case measure => simp [intOf]; omega
    · have ht : l.take k = l.take n := by rw [List.take_of_length_le (by have := HN.out; omega), List.take_of_length_le (by have := HN.out; omega)]
      rw [ht, ← HE.out] at row
      have hkn : decide ((k : Int) < (n : Int)) = false := decide_eq_false (by omega)
      have hnl := row.1
      have hr := row.2
      rw [← hnl] at hr
      have R := Lib.hid (own_reads hr)
      rw [hnl] at R
      have hwg : w.heap.size ≤ g := by omega
      clear row hr hnl ht
      go_wp2_with fail
      refine bodyPost_ret (v := .tuple #[.slice (some ⟨g, 0, none⟩) N c5, .int .i64 0]) (by simp [results, Tryz.results23]) rfl ⟨_, rfl, R.out, (fun ad m c he => by cases he; exact hwg), kk⟩

theorem r_halves (v : Value) (l : List Int) (w : World) (hv : RdI .i64 w v l) (hn : l.length ≤ 1000000) : Calls Tryz.prog 23 #[v] w (BtEnd w (halfOut l) (treeErr l)) := by
  cases ht : okW l with
  | true => simpa [halfOut, treeErr, ht] using r_halves_yes v l w hv hn ht
  | false => simpa [halfOut, treeErr, ht] using r_halves_no v l w hv hn ht
end

section
set_option linter.unusedVariables false
set_option linter.unusedSimpArgs false
set_option linter.unusedSectionVars false
open Go.RowKit

theorem no_any (n : Int) (w : World) : Calls Tryz.prog 16 #[.int .i64 n] w fun e w' => e = .returned (.int .i64 n) ∧ w' = w := by
  go_enter Tryz.func16, Tryz.ntmps16
  go_wp2
  go_ret
  exact ⟨rfl, rfl⟩

set_option maxHeartbeats 1000000 in
theorem same_yes (v1 v2 : Value) (l : List Int) (w : World) (h1 : RdI .i64 w v1 l) (h2 : RdI .i64 w v2 l) (hn : l.length ≤ 1000000) :
    Calls Tryz.prog 15 #[v1, v2] w fun e w' => e = .returned (.bool true) ∧ ∃ m, w' = w.drewN m := by
  obtain ⟨A1, n, c1, rfl, hn1, -⟩ := h1.form
  obtain ⟨A2, n2, c2, rfl, hn2, -⟩ := h2.form
  obtain rfl : n2 = n := by omega
  have H1 := Lib.hid h1
  have H2 := Lib.hid h2
  have HN := Lib.hid hn1
  have hn' : n2 ≤ 1000000 := by omega
  clear h1 h2 hn1 hn2 hn
  go_enter Tryz.func15, Tryz.ntmps15
  go_wp2_with fail
  go_loopw [5] (fun i wr => ∃ k nd : Nat, k ≤ n2 ∧ i = .int .i64 k ∧ wr = w.drewN nd) (fun i _ => n2 - (intOf i).toNat)
  case atStart => exact ⟨0, 0, Nat.zero_le _, rfl, rfl⟩
  case round =>
    obtain ⟨k, nd, hk, rfl, rfl⟩ := hrel
    by_cases hlt : k < n2
    · obtain ⟨x, hx⟩ : ∃ x, l[k]? = some x := ⟨_, List.getElem?_eq_getElem (by have := HN.out; omega)⟩
      obtain ⟨b, o, rfl, hb, hc⟩ := H1.out.at hx
      obtain ⟨b2, o2, rfl, hb2, hc2⟩ := H2.out.at hx
      have hcap := H1.out.cap
      have hcap2 := H2.out.cap
      have hkn : (k : Int) < (n2 : Int) := by omega
      have hk0 : (0 : Int) ≤ (k : Int) := Int.natCast_nonneg _
      clear hx
      go_wp2_with fail
      go_quiet (fail)
      go_wp2_with fail
      go_roundw
      case rel => exact ⟨k + 1, nd + nq, by omega, by go_num, rfl⟩
      case measure => simp [intOf]; omega
    · have : k = n2 := by omega
      subst this
      go_wp2_with fail
      go_ret
      exact ⟨rfl, _, rfl⟩

theorem Blk.newAt {w : World} {cs : Array Value} {T : TypeId} {b : Nat} (h : w.heap.size = b) : Blk (w.alloc (.cells cs T)) b cs T := h ▸ Blk.new w cs T

theorem blk_nums {w : World} {b : Nat} {l : List Int} {k : IntKind} {T : TypeId} (h : Blk w b (l.map (Value.int k)).toArray T) : RdI k w (.slice (some ⟨b, 0, none⟩) l.length l.length) l :=
  ⟨_, _, _, rfl, rfl, (fun h => by cases h), fun h0 => ⟨Nat.le_refl _, b, 0, rfl, h.lt, fun i x hx => by
    rw [Nat.zero_add, h.cell]
    simp [hx]⟩⟩

theorem blk_one {w : World} {b : Nat} {x : Int} {k : IntKind} {T : TypeId} (h : Blk w b #[.int k x] T) : RdI k w (.slice (some ⟨b, 0, none⟩) 1 1) [x] := blk_nums (l := [x]) h
theorem blk_two {w : World} {b : Nat} {x y : Int} {k : IntKind} {T : TypeId} (h : Blk w b #[.int k x, .int k y] T) : RdI k w (.slice (some ⟨b, 0, none⟩) 2 2) [x, y] := blk_nums (l := [x, y]) h
theorem blk_three {w : World} {b : Nat} {x y z : Int} {k : IntKind} {T : TypeId} (h : Blk w b #[.int k x, .int k y, .int k z] T) : RdI k w (.slice (some ⟨b, 0, none⟩) 3 3) [x, y, z] := blk_nums (l := [x, y, z]) h
theorem blk_four {w : World} {b : Nat} {x y z u : Int} {k : IntKind} {T : TypeId} (h : Blk w b #[.int k x, .int k y, .int k z, .int k u] T) : RdI k w (.slice (some ⟨b, 0, none⟩) 4 4) [x, y, z, u] := blk_nums (l := [x, y, z, u]) h

/-- How gets ends. -/
def GetEnd (w : World) (out : List Int) (left n : Int) (e : Ending) (w' : World) : Prop := ∃ r, e = .returned (.tuple #[r, .int .i64 left, .int .i64 n]) ∧ RdI .i64 w' r out ∧ Keeps w w' []

set_option maxRecDepth 100000 in
theorem gets_of (v : Value) (B out : List Int) (n : Int) (k' : Nat) (w : World) (hv : RdI .u8 w v B) (hn : B.length ≤ 1000000) (hx : ∀ x ∈ B, 0 ≤ x ∧ x ≤ 255)
    (hdec : ∀ W p v', Cur W p v' B 0 → Calls Tryz.prog 29 #[.pointer (some ⟨p, 0, none⟩)] W (DecEnd W p v' B out n k')) :
    Calls Tryz.prog 33 #[v] w (GetEnd w out ((B.length : Int) - (k' : Int)) n) := by
  have HN := Lib.hid (new_any v B w hv hn hx)
  have HD := Lib.hid hdec
  have hl : Hid (∀ W p v', Cur W p v' B k' → Calls Tryz.prog 51 #[.pointer (some ⟨p, 0, none⟩)] W fun e w' => e = .returned (.int .i64 ((B.length : Int) - (k' : Int))) ∧ ∃ m, w' = W.drewN m) := fun W p v' h => left_any p k' v' B W h
  obtain ⟨ad, m, c, rfl, -, -⟩ := hv.form
  clear hv hdec
  generalize (B.length : Int) - (k' : Int) = LF at *
  go_enter Tryz.func33, Tryz.ntmps33
  go_wp2_with (first
    | (go_at_call 27; go_loud (refine HN.out.mono ?_; rintro e w1 ⟨p, v1, rfl, hp, cur1, k1⟩))
    | (go_at_call 29; go_loud (refine (HD.out _ _ _ cur1).mono ?_; rintro e w2 ⟨r2, rfl, rd2, -, cur2, k2⟩))
    | (go_at_call 51; go_loud (refine (hl.out _ _ _ cur2).mono ?_; rintro e w3 ⟨rfl, mq, rfl⟩))
    | (go_at_call 16; go_loud (refine (no_any _ _).mono ?_; rintro e w4 ⟨rfl, rfl⟩)))
  exact bodyPost_ret (v := .tuple #[r2, .int .i64 LF, .int .i64 n]) (by simp [results, Tryz.results33]) rfl ⟨_, rfl, rd2.drewN mq, (k1.trans k2 (fun j hj hlt => by simp at hj; omega)).drewN mq⟩
end

end Go.Proofs.YtophgpnnjphnmaaGreat
