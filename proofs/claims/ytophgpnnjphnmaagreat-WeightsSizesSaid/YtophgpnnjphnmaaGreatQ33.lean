/-
  Walks over package weights: ways, described, EncodePacked.
  Walks over the reference of package weights: Varint, Halves.
  The law's helpers same, no, gets.
  What a description of a tree says, in one word: weights.Decode and the reference's Get; Decode without a cursor. (Printed by mkWu.py.)
  A description in format 1, in plain words: the counts, the table, the bytes; and that it is read back, whatever follows; so is one in format 0. (No walk is done here.)
-/
import Derived.Test.YtophgpnnjphnmaaGreatQ4
import Derived.Test.YtophgpnnjphnmaaGreatQ7
import Derived.Test.YtophgpnnjphnmaaGreatQ31
import Derived.Laws.EntriesVeiled
import Derived.Test.YtophgpnnjphnmaaGreatQ28
import Derived.Test.YtophgpnnjphnmaaGreatQ32
import Derived.Test.YtophgpnnjphnmaaGreatQ9
import Derived.Test.YtophgpnnjphnmaaGreatQ18
import Derived.Test.YtophgpnnjphnmaaGreatQ21
import Derived.Test.YtophgpnnjphnmaaGreatQ22
namespace Go.Proofs.YtophgpnnjphnmaaGreat
section
set_option linter.unusedVariables false
set_option linter.unusedSimpArgs false
set_option linter.unusedSectionVars false
open Go.RowKit

/-- A call returns bytes and an error, and leaves the memory that was there. -/
def BtEnd (w : World) (l : List Int) (n : Int) (e : Ending) (w' : World) : Prop := ∃ v, e = .returned (.tuple #[v, .int .i64 n]) ∧ RdI .u8 w' v l ∧ Fresh w.heap.size v ∧ Keeps w w' []

theorem okW_bound {l : List Int} (h : okW l = true) : ∀ x ∈ l, 0 ≤ x ∧ x ≤ 11 := by
  intro x hx
  simp only [okW, Bool.and_eq_true] at h
  exact finM_iff.1 (List.all_eq_true.1 h.1.1.2 x hx)

set_option maxRecDepth 100000 in
theorem ways_any (w : World) : Calls Tryz.prog 60 #[] w fun e w' => e = .returned (.agg #[.func (.func 80) #[] #[], .func (.func 81) #[] #[]]) ∧ Keeps w w' [] := by
  go_enter Tryz.func60, Tryz.ntmps60
  go_wp2_with fail
  refine bodyPost_ret (v := .agg #[.func (.func 80) #[] #[], .func (.func 81) #[] #[]]) (by simp only [results, Tryz.results60]; go_simp) rfl ⟨rfl, (Keeps.refl _ _).alloc _⟩

set_option maxRecDepth 100000 in
set_option maxHeartbeats 2000000 in
theorem described_yes (v : Value) (l : List Int) (w : World) (hv : RdI .i64 w v l) (hn : l.length ≤ 1000000) (ht : okW l = true) : Calls Tryz.prog 43 #[v, .int .i64 0] w (BtEnd w (halvesL l) 0) := by
  have hmf : ∀ (fn : Fn) (first cap : Array Value) (w : World), (Instr.makeFunc fn first cap).run Tryz.prog w = .ok (.func fn first cap) w := fun _ _ _ _ => rfl
  have HO := Lib.hid (fun w' (k : Keeps w w' []) => (wtree_any v l w' (hv.keeps k) hn).mono fun e w'' h => (⟨h.2.1 ht, h.1⟩ : (∃ v, e = .returned (.tuple #[v, .int .i64 (vW l)]) ∧ RdI .i64 w'' v (tOf l) ∧ Fresh w'.heap.size v) ∧ Keeps w' w'' []))
  have HH := Lib.hid (fun w' (k : Keeps w w' []) => halved_any v l w' (hv.keeps k) hn (okW_bound ht))
  have hix : ∀ w : World, (Instr.index 80 (.agg #[.func (.func 80) #[] #[], .func (.func 81) #[] #[]]) (.int .i64 0)).run Tryz.prog w = .ok (.func (.func 80) #[] #[]) w := fun w => by simp [Instr.index, go_sem]
  obtain ⟨A0, n, cp0, rfl, -, -⟩ := hv.form
  clear hv ht
  generalize vW l = V at *
  go_enter_defers Tryz.func43, Tryz.ntmps43
  go_wp2_with fail
  have k0 : Keeps w ((w.alloc (.cells #[.slice none 0 0] 36)).alloc (.cells #[.int .i64 0] 24)) [] := ((Keeps.refl w []).alloc _).alloc _
  have bo := (Blk.new w #[.slice none 0 0] 36).alloc (.cells #[.int .i64 0] 24)
  have be := Blk.new (w.alloc (.cells #[.slice none 0 0] 36)) #[.int .i64 0] 24
  simp only [World.size_alloc] at be
  refine (HO.out _ k0).mono ?_
  rintro e w1 ⟨⟨v1, rfl, r1, f1⟩, k1⟩
  clear r1 f1
  replace bo := bo.keeps k1 (by simp)
  replace be := be.keeps k1 (by simp)
  replace k0 := k0.then k1
  clear k1
  go_wp2_with (go_at_call 60; refine (ways_any _).mono ?_; rintro e w2 ⟨rfl, k2⟩)
  have k2' := k0.then k2
  have hs12' : Hid (w.heap.size + 2 ≤ w2.heap.size) := by have := (be.keeps k2 (by simp)).lt; exact (by omega : w.heap.size + 2 ≤ w2.heap.size)
  replace bo := bo.keeps k2 (by simp)
  replace be := be.keeps k2 (by simp)
  go_wp2_with fail
  refine (HH.out _ k2').mono ?_
  rintro e w3 ⟨v3, rfl, own3, k3⟩
  obtain ⟨a3, c3, rfl⟩ := own_form own3
  replace bo := bo.keeps k3 (by simp)
  replace be := be.keeps k3 (by simp)
  have hs2 := k2'.size
  have lbe := be.lt
  have hs12 : w.heap.size + 2 ≤ w2.heap.size := hs12'.out
  replace k0 := k2'.then k3
  clear k2 k2' k3
  obtain ⟨e0, e1⟩ := be.one
  obtain ⟨o0, o1⟩ := bo.one
  have R1 := Lib.hid (own_reads own3)
  have F1 := Lib.hid (own_freshB own3)
  have hlen : (halvesL l).length = (halvesL l).length := rfl
  clear own3 hlen
  generalize (halvesL l).length = N at *
  go_wp2_with fail
  refine leaves_cons (f := 35) (args := #[.pointer (some ⟨w.heap.size + 1, 0, none⟩), .func (.func 66) #[] #[.pointer (some ⟨w.heap.size, 0, none⟩)]]) (by simp) (by simp [go_sem]) ?_
  refine (wcaught_idle _ _ _).mono ?_
  rintro e u' w'' ⟨rfl, rfl, rfl⟩
  refine ⟨.tuple #[.slice a3 N c3, .int .i64 0], by simp only [results, Tryz.results43]; go_simp, ?_⟩
  refine ⟨_, rfl, R1.out.keepsS (S := [w.heap.size, w.heap.size + 1]) (by repeat (first | exact Keeps.refl _ _ | refine Keeps.setCell' (.inr (by simp)) ?_)) (fun ad m c he _ hm => ?_), F1.out.mono hs2, by repeat (first | exact k0 | refine Keeps.setCell' (.inl (by dsimp only; omega)) ?_)⟩
  have := F1.out ad m c he
  simp at hm
  omega

set_option maxRecDepth 100000 in
set_option maxHeartbeats 2000000 in
theorem described_no (v : Value) (l : List Int) (way : Int) (w : World) (hv : RdI .i64 w v l) (hn : l.length ≤ 1000000) (ht : okW l = false) : Calls Tryz.prog 43 #[v, .int .i64 way] w (BtEnd w [] 12) := by
  have hmf : ∀ (fn : Fn) (first cap : Array Value) (w : World), (Instr.makeFunc fn first cap).run Tryz.prog w = .ok (.func fn first cap) w := fun _ _ _ _ => rfl
  have HO := Lib.hid (fun w' (k : Keeps w w' []) => (wtree_any v l w' (hv.keeps k) hn).mono fun e w'' h => (⟨h.2.2 ht, h.1⟩ : e = .panicked [raisedBy 12 false] ∧ Keeps w' w'' []))
  obtain ⟨A0, n, cp0, rfl, -, -⟩ := hv.form
  clear hv ht
  go_enter_defers Tryz.func43, Tryz.ntmps43
  go_wp2_with fail
  have k0 : Keeps w ((w.alloc (.cells #[.slice none 0 0] 36)).alloc (.cells #[.int .i64 0] 24)) [] := ((Keeps.refl w []).alloc _).alloc _
  have bo := (Blk.new w #[.slice none 0 0] 36).alloc (.cells #[.int .i64 0] 24)
  have be := Blk.new (w.alloc (.cells #[.slice none 0 0] 36)) #[.int .i64 0] 24
  simp only [World.size_alloc] at be
  refine (HO.out _ k0).mono ?_
  rintro e w1 ⟨rfl, k1⟩
  replace bo := bo.keeps k1 (by simp)
  replace be := be.keeps k1 (by simp)
  replace k0 := k0.then k1
  clear k1
  obtain ⟨e0, e1⟩ := be.one
  obtain ⟨o0, o1⟩ := bo.one
  go_wp2_with fail
  refine leaves_cons (f := 35) (args := #[.pointer (some ⟨w.heap.size + 1, 0, none⟩), .func (.func 66) #[] #[.pointer (some ⟨w.heap.size, 0, none⟩)]]) (by simp) (by simp [go_sem]) ?_
  refine (wcaught_desc _ _ 12 _ _ _ _ [] _ be bo (by omega)).mono ?_
  rintro e u' w'' ⟨rfl, rfl, rfl⟩
  refine ⟨.tuple #[.slice none 0 0, .int .i64 12], by simp only [results, Tryz.results43]; go_simp, ?_⟩
  refine ⟨_, rfl, .nil, .nil, ?_⟩
  exact Keeps.setCell' (.inl (by dsimp only; omega)) (Keeps.setCell' (.inl (by dsimp only; omega)) k0)

def halfOut (l : List Int) : List Int := if okW l then halvesL l else []

set_option maxRecDepth 100000 in
theorem packed_any (v : Value) (l : List Int) (w : World) (hv : RdI .i64 w v l) (hn : l.length ≤ 1000000) : Calls Tryz.prog 22 #[v] w (BtEnd w (halfOut l) (treeErr l)) := by
  have hd : Calls Tryz.prog 43 #[v, .int .i64 0] w (BtEnd w (halfOut l) (treeErr l)) := by
    cases ht : okW l with
    | true => simpa [halfOut, treeErr, ht] using described_yes v l w hv hn ht
    | false => simpa [halfOut, treeErr, ht] using described_no v l 0 w hv hn ht
  have HD := Lib.hid hd
  obtain ⟨A0, n, cp0, rfl, -, -⟩ := hv.form
  clear hv hd
  generalize treeErr l = E at *
  go_enter Tryz.func22, Tryz.ntmps22
  go_wp2_with (refine HD.out.mono ?_; rintro e w1 ⟨v1, rfl, r1, f1, k1⟩)
  exact bodyPost_ret (v := .tuple #[v1, .int .i64 E]) (by simp [results, Tryz.results22]) rfl ⟨v1, rfl, r1, f1, k1⟩
end

section
set_option linter.unusedVariables false
set_option linter.unusedSimpArgs false
set_option linter.unusedSectionVars false
open Go.RowKit

theorem own_one (w : World) (x : Int) : (w.alloc (.cells #[.int .u8 x] 5)).ownsRow w.heap.size 5 1 (.slice (some ⟨w.heap.size, 0, none⟩) 1 1) 1 ([x].map (.int .u8)) :=
  ⟨rfl, .inr ⟨_, 1, _, rfl, Nat.le_refl _, heap_alloc_new w _, Nat.le_refl _, by decide, rfl, rfl⟩⟩

set_option maxRecDepth 100000 in
set_option maxHeartbeats 2000000 in
theorem r_varint (n : Nat) : ∀ (w : World), n < 18446744073709551616 → Calls Tryz.prog 44 #[.int .u64 (n : Int)] w fun e w' => ∃ v', e = .returned v' ∧ OwnB w' w.heap.size v' (varI n) ∧ Keeps w w' [] := by
  induction n using Nat.strongRecOn with
  | _ n ih =>
    intro w hn
    obtain ⟨i0, hi, hz0, hz1, hz2⟩ := info_parts Tryz.infoByte
    by_cases h128 : n < 128
    · have d1 : ((n : Int)) < 128 := by omega
      have hm : (n : Int) % 256 = n := by omega
      have hv := varI_small h128
      have HO := Lib.hid (own_one w n)
      have HV := Lib.hid hv
      clear hv ih
      go_enter Tryz.func44, Tryz.ntmps44
      go_wp2_with fail
      go_ret
      refine ⟨_, rfl, ?_, (Keeps.refl _ _).alloc _⟩
      rw [HV.out]
      exact HO.out
    · have d1 : decide ((n : Int) < 128) = false := decide_eq_false (by omega)
      obtain ⟨q, hqn⟩ : ∃ q, q = n / 128 := ⟨_, rfl⟩
      have hq : (n : Int) / 128 = (q : Int) := by omega
      have hv : varI n = ((n : Int) % 128 + 128) :: varI q := by
        rw [varI_step (by omega), hqn]
        congr 1
      have hll : (varI q).length ≤ 10 := varI_len 9 q (by omega)
      have HV := Lib.hid hv
      have HI := Lib.hid (fun w1 => ih q (by omega) w1 (by omega))
      have HO := Lib.hid (own_one w ((n : Int) % 128 + 128))
      clear ih hqn hv
      go_enter Tryz.func44, Tryz.ntmps44
      generalize hN : (varI q).length = N at hll
      have HN := Lib.hid hN
      go_wp2_with (first
        | (go_at_call 44; refine (HI.out _).mono ?_; rintro e w1 ⟨v1, rfl, own1, k1⟩; rw [OwnB, hN] at own1; obtain ⟨a1, c1, rfl⟩ := own_form own1; have R1 := Lib.hid (own_reads (l := varI q) (by rw [hN]; exact own1)); have OW := Lib.hid (own_keeps HO.out k1); have hs1 := k1.size; simp only [World.size_alloc] at hs1; have k0 := ((Keeps.refl w []).alloc (.cells #[.int .u8 ((n : Int) % 128 + 128)] 5)).then k1; clear own1 k1 hN)
        | (at_builtin; go_loud (refine wpList_appendI rfl _ _ 36 rfl w.heap.size 5 i0 (.int .u8 0) 1 Tryz.underlying36 hi hz0 hz1 hz2 rfl _ 1 _ rfl OW.out _ rfl .u8 (varI q) R1.out (by rw [HN.out]; unfold maxLen; omega) (by rw [HN.out]; omega) (by omega) ?_; intro v3 w3 own3 g3 _; obtain ⟨a3, c3, rfl⟩ := own_form own3)))
      go_ret
      refine ⟨_, rfl, ?_, k0.trans (Keeps.of_grown (S := [w.heap.size]) g3 (fun k hk => by cases hk; simp)) (fun j hj hlt => by have := List.mem_singleton.1 hj; omega)⟩
      rw [HV.out]
      rw [Nat.add_comm] at own3
      unfold OwnB
      rw [List.length_cons, List.map_cons]
      have e : (Value.slice a3 (1 + (varI q).length) c3) = .slice a3 ((varI q).length + 1) c3 := by rw [Nat.add_comm]
      show w3.ownsRow w.heap.size 5 1 (.slice a3 (1 + (varI q).length) c3) _ _
      rw [e]
      exact own3

set_option maxRecDepth 100000 in
set_option maxHeartbeats 2000000 in
theorem r_halves_no (v : Value) (l : List Int) (w : World) (hv : RdI .i64 w v l) (hn : l.length ≤ 1000000) (hok : okW l = false) : Calls Tryz.prog 23 #[v] w (BtEnd w [] 12) := by
  have hl := r_Last v l w hv hn
  rw [show lastOut l = 0 by simp [lastOut, hok], show treeErr l = 12 by simp [treeErr, hok]] at hl
  have HL := Lib.hid hl
  obtain ⟨A0, n, cp0, rfl, -, -⟩ := hv.form
  clear hv hl hok
  go_enter Tryz.func23, Tryz.ntmps23
  go_wp2_with (refine HL.out.mono ?_; rintro e w1 ⟨rfl, k1⟩)
  exact bodyPost_ret (v := .tuple #[.slice none 0 0, .int .i64 12]) (by simp [results, Tryz.results23]) rfl ⟨_, rfl, .nil, .nil, k1⟩

set_option maxRecDepth 100000 in
set_option maxHeartbeats 4000000 in
theorem r_halves_yes (v : Value) (l : List Int) (w : World) (hv : RdI .i64 w v l) (hl : l.length ≤ 1000000) (hok : okW l = true) : Calls Tryz.prog 23 #[v] w (BtEnd w (halvesL l) 0) := by
  obtain ⟨i0, hi, hz0, hz1, hz2⟩ := info_parts Tryz.infoByte
  have hll := r_Last v l w hv hl
  rw [show lastOut l = vW l by simp [lastOut, hok], show treeErr l = 0 by simp [treeErr, hok]] at hll
  have HL := Lib.hid hll
  have HV := Lib.hid hv
  have HX := Lib.hid (okW_bound hok)
  obtain ⟨ad, n, c, rfl, hn, -⟩ := hv.form
  have HR := Lib.hid (fun w1 => r_varint n w1 (by omega))
  have HE : Hid (halvesL l = (varI n ++ [0]) ++ nibF (l.take n)) := by show _ = _; rw [hn, List.take_length]; rfl
  have hlen := varI_len 9 n (by omega)
  have hvp := varI_pos n
  have HN := Lib.hid hn
  have hm : (n : Int) % 18446744073709551616 = n := by omega
  rw [← hn] at hl
  clear hv hn hll
  generalize (vW l : Int) = V at *
  generalize varI n = hd at *
  go_enter Tryz.func23, Tryz.ntmps23
  generalize hN1 : hd.length = N1 at *
  have HN1 := Lib.hid hN1
  clear hN1
  go_wp2_with (first
    | (go_at_call 21; refine HL.out.mono ?_; rintro e w1 ⟨rfl, k1⟩)
    | (go_at_call 44; refine (HR.out _).mono ?_; rintro e w2 ⟨v2, rfl, own2, k2⟩; rw [OwnB, HN1.out] at own2; obtain ⟨a2, c2, rfl⟩ := own_form own2; have OW := Lib.hid own2; have hs2 := k2.size; have hs1 := k1.size; clear own2)
    | (at_builtin; go_loud (refine wpList_app1 (w := w2) rfl _ _ 36 rfl w1.heap.size i0 Tryz.underlying36 hi hz0 hz1 hz2 (.slice a2 N1 c2) N1 hd 0 _ rfl rfl rfl OW.out (by omega) (by omega) ?_; intro a3 c3 w3 own3 k3; obtain ⟨g1, rfl, row1⟩ := rowB_own (by simp; exact HN1.out) (Nat.succ_pos _) own3)))
  have k3' : Keeps w w3 [] := keeps_row (k1.then k2) k3 (fun g hg => by have := (OW.out.lt g hg).1; omega)
  clear own3 k3 k1 k2
  go_loopw [6, 7] (fun v i wr => ∃ (k g N c5 : Nat), k ≤ n + 1 ∧ i = .int .i64 k ∧ v = .slice (some ⟨g, 0, none⟩) N c5 ∧ N ≤ 20 + k ∧ 0 < N ∧ k % 2 = 0 ∧ RowB wr w1.heap.size g N c5 (hd ++ [0] ++ nibF (l.take k)) ∧ Keeps w wr []) (fun _ i _ => n + 1 - (intOf i).toNat)
  case atStart => exact ⟨0, g1, _, c3, Nat.zero_le _, rfl, rfl, by omega, by omega, rfl, by simpa [nibF] using row1, k3'⟩
  case round =>
    clear row1 k3' OW HL HR
    obtain ⟨k, g, N, c5, hk, rfl, rfl, hN, hN0, hev, row, kk⟩ := hrel
    have hs := kk.size
    have hs1' := row.lt
    have hsr : w1.heap.size ≤ wr.heap.size := by omega
    by_cases hlt : k < n
    · obtain ⟨x, hx⟩ : ∃ x, l[k]? = some x := ⟨_, List.getElem?_eq_getElem (by have := HN.out; omega)⟩
      obtain ⟨b, o, rfl, hb, hc⟩ := HV.out.at hx
      have hc' := (kk.cell (p := ⟨b, o + k, none⟩) hb (by simp)).trans hc
      have hcap := HV.out.cap
      have hxb := HX.out x (List.mem_of_getElem? hx)
      have hkn : (k : Int) < (n : Int) := by omega
      have hm1 : x % 256 = x := by omega
      have ROW := Lib.hid row
      by_cases h1 : k + 1 < n
      · have h1' : (k : Int) + 1 < (n : Int) := by omega
        obtain ⟨y, hy⟩ : ∃ y, l[k + 1]? = some y := ⟨_, List.getElem?_eq_getElem (by have := HN.out; omega)⟩
        obtain ⟨b', o', he, hb', hcy⟩ := HV.out.at hy
        cases he
        have hcy' := (kk.cell (p := ⟨b, o + (k + 1), none⟩) hb' (by simp)).trans hcy
        have hyb := HX.out y (List.mem_of_getElem? hy)
        have hw1 : wrap64 (16 * y) = 16 * y := IntWalk.wrap64_in _ ⟨by omega, by omega⟩
        have hw2 : wrap64 (x + 16 * y) = x + 16 * y := IntWalk.wrap64_in _ ⟨by omega, by omega⟩
        have hm2 : (x + 16 * y) % 256 = x + 16 * y := by omega
        have HT := Lib.hid (nib_take2 hx hy hev)
        clear hx hc row hy hcy
        go_wp2_with (at_builtin; go_loud (refine wpList_app1 (w := wr) rfl _ _ 36 rfl w1.heap.size i0 Tryz.underlying36 hi hz0 hz1 hz2 (.slice (some ⟨g, 0, none⟩) N c5) N (hd ++ [0] ++ nibF (l.take k)) (x + 16 * y) _ rfl rfl rfl ROW.out.2 (by omega) (by omega) ?_; intro a3 c4 w4 own4 k3; obtain ⟨g3, rfl, row3⟩ := rowB_own (L := hd ++ [0] ++ nibF (l.take k) ++ [x + 16 * y]) (by have := ROW.out.1; simp only [List.length_append, List.length_singleton] at this ⊢; omega) (Nat.succ_pos _) own4))
        have kk3 := keeps_row kk k3 (fun g' hg => by have := (ROW.out.2.lt g' hg).1; omega)
        rw [List.append_assoc, ← HT.out] at row3
        clear own4 k3
        go_roundw
        case rel => exact ⟨k + 2, g3, N + 1, c4, by omega, by go_num, rfl, by omega, by omega, by omega, row3, kk3⟩
        case measure => simp [intOf]; omega
      · have h1' : decide ((k : Int) + 1 < (n : Int)) = false := decide_eq_false (by omega)
        have ht2 : l.take (k + 2) = l.take (k + 1) := by rw [List.take_of_length_le (by have := HN.out; omega), List.take_of_length_le (by have := HN.out; omega)]
        have HT := Lib.hid (nib_take1 hx hev)
        rw [← ht2] at HT
        clear hx hc row ht2
        go_wp2_with (at_builtin; go_loud (refine wpList_app1 (w := wr) rfl _ _ 36 rfl w1.heap.size i0 Tryz.underlying36 hi hz0 hz1 hz2 (.slice (some ⟨g, 0, none⟩) N c5) N (hd ++ [0] ++ nibF (l.take k)) x _ rfl rfl rfl ROW.out.2 (by omega) (by omega) ?_; intro a3 c4 w4 own4 k3; obtain ⟨g3, rfl, row3⟩ := rowB_own (L := hd ++ [0] ++ nibF (l.take k) ++ [x]) (by have := ROW.out.1; simp only [List.length_append, List.length_singleton] at this ⊢; omega) (Nat.succ_pos _) own4))
        have kk3 := keeps_row kk k3 (fun g' hg => by have := (ROW.out.2.lt g' hg).1; omega)
        rw [List.append_assoc, ← HT.out] at row3
        clear own4 k3
        go_roundw
        case rel => exact ⟨k + 2, g3, N + 1, c4, by omega, by go_num, rfl, by omega, by omega, by omega, row3, kk3⟩
        case measure => simp [intOf]; omega
    · have ht : l.take k = l.take n := by rw [List.take_of_length_le (by have := HN.out; omega), List.take_of_length_le (by have := HN.out; omega)]
      rw [ht, ← HE.out] at row
      have hkn : decide ((k : Int) < (n : Int)) = false := decide_eq_false (by omega)
      have hnl := row.1
      have hr := row.2
      rw [← hnl] at hr
      have R := Lib.hid (own_reads hr)
      rw [hnl] at R
      have hwg : w.heap.size ≤ g := by omega
      clear row hr hnl ht
      go_wp2_with fail
      refine bodyPost_ret (v := .tuple #[.slice (some ⟨g, 0, none⟩) N c5, .int .i64 0]) (by simp [results, Tryz.results23]) rfl ⟨_, rfl, R.out, (fun ad m c he => by cases he; exact hwg), kk⟩

theorem r_halves (v : Value) (l : List Int) (w : World) (hv : RdI .i64 w v l) (hn : l.length ≤ 1000000) : Calls Tryz.prog 23 #[v] w (BtEnd w (halfOut l) (treeErr l)) := by
  cases ht : okW l with
  | true => simpa [halfOut, treeErr, ht] using r_halves_yes v l w hv hn ht
  | false => simpa [halfOut, treeErr, ht] using r_halves_no v l w hv hn ht
end

section
set_option linter.unusedVariables false
set_option linter.unusedSimpArgs false
set_option linter.unusedSectionVars false
open Go.RowKit

theorem no_any (n : Int) (w : World) : Calls Tryz.prog 16 #[.int .i64 n] w fun e w' => e = .returned (.int .i64 n) ∧ w' = w := by
  go_enter Tryz.func16, Tryz.ntmps16
  go_wp2
  go_ret
  exact ⟨rfl, rfl⟩

set_option maxHeartbeats 1000000 in
theorem same_yes (v1 v2 : Value) (l : List Int) (w : World) (h1 : RdI .i64 w v1 l) (h2 : RdI .i64 w v2 l) (hn : l.length ≤ 1000000) :
    Calls Tryz.prog 15 #[v1, v2] w fun e w' => e = .returned (.bool true) ∧ ∃ m, w' = w.drewN m := by
  obtain ⟨A1, n, c1, rfl, hn1, -⟩ := h1.form
  obtain ⟨A2, n2, c2, rfl, hn2, -⟩ := h2.form
  obtain rfl : n2 = n := by omega
  have H1 := Lib.hid h1
  have H2 := Lib.hid h2
  have HN := Lib.hid hn1
  have hn' : n2 ≤ 1000000 := by omega
  clear h1 h2 hn1 hn2 hn
  go_enter Tryz.func15, Tryz.ntmps15
  go_wp2_with fail
  go_loopw [5] (fun i wr => ∃ k nd : Nat, k ≤ n2 ∧ i = .int .i64 k ∧ wr = w.drewN nd) (fun i _ => n2 - (intOf i).toNat)
  case atStart => exact ⟨0, 0, Nat.zero_le _, rfl, rfl⟩
  case round =>
    obtain ⟨k, nd, hk, rfl, rfl⟩ := hrel
    by_cases hlt : k < n2
    · obtain ⟨x, hx⟩ : ∃ x, l[k]? = some x := ⟨_, List.getElem?_eq_getElem (by have := HN.out; omega)⟩
      obtain ⟨b, o, rfl, hb, hc⟩ := H1.out.at hx
      obtain ⟨b2, o2, rfl, hb2, hc2⟩ := H2.out.at hx
      have hcap := H1.out.cap
      have hcap2 := H2.out.cap
      have hkn : (k : Int) < (n2 : Int) := by omega
      have hk0 : (0 : Int) ≤ (k : Int) := Int.natCast_nonneg _
      clear hx
      go_wp2_with fail
      go_quiet (fail)
      go_wp2_with fail
      go_roundw
      case rel => exact ⟨k + 1, nd + nq, by omega, by go_num, rfl⟩
      case measure => simp [intOf]; omega
    · have : k = n2 := by omega
      subst this
      go_wp2_with fail
      go_ret
      exact ⟨rfl, _, rfl⟩

theorem Blk.newAt {w : World} {cs : Array Value} {T : TypeId} {b : Nat} (h : w.heap.size = b) : Blk (w.alloc (.cells cs T)) b cs T := h ▸ Blk.new w cs T

theorem blk_nums {w : World} {b : Nat} {l : List Int} {k : IntKind} {T : TypeId} (h : Blk w b (l.map (Value.int k)).toArray T) : RdI k w (.slice (some ⟨b, 0, none⟩) l.length l.length) l :=
  ⟨_, _, _, rfl, rfl, (fun h => by cases h), fun h0 => ⟨Nat.le_refl _, b, 0, rfl, h.lt, fun i x hx => by
    rw [Nat.zero_add, h.cell]
    simp [hx]⟩⟩

theorem blk_one {w : World} {b : Nat} {x : Int} {k : IntKind} {T : TypeId} (h : Blk w b #[.int k x] T) : RdI k w (.slice (some ⟨b, 0, none⟩) 1 1) [x] := blk_nums (l := [x]) h
theorem blk_two {w : World} {b : Nat} {x y : Int} {k : IntKind} {T : TypeId} (h : Blk w b #[.int k x, .int k y] T) : RdI k w (.slice (some ⟨b, 0, none⟩) 2 2) [x, y] := blk_nums (l := [x, y]) h
theorem blk_three {w : World} {b : Nat} {x y z : Int} {k : IntKind} {T : TypeId} (h : Blk w b #[.int k x, .int k y, .int k z] T) : RdI k w (.slice (some ⟨b, 0, none⟩) 3 3) [x, y, z] := blk_nums (l := [x, y, z]) h
theorem blk_four {w : World} {b : Nat} {x y z u : Int} {k : IntKind} {T : TypeId} (h : Blk w b #[.int k x, .int k y, .int k z, .int k u] T) : RdI k w (.slice (some ⟨b, 0, none⟩) 4 4) [x, y, z, u] := blk_nums (l := [x, y, z, u]) h

/-- How gets ends. -/
def GetEnd (w : World) (out : List Int) (left n : Int) (e : Ending) (w' : World) : Prop := ∃ r, e = .returned (.tuple #[r, .int .i64 left, .int .i64 n]) ∧ RdI .i64 w' r out ∧ Keeps w w' []

set_option maxRecDepth 100000 in
theorem gets_of (v : Value) (B out : List Int) (n : Int) (k' : Nat) (w : World) (hv : RdI .u8 w v B) (hn : B.length ≤ 1000000) (hx : ∀ x ∈ B, 0 ≤ x ∧ x ≤ 255)
    (hdec : ∀ W p v', Cur W p v' B 0 → Calls Tryz.prog 29 #[.pointer (some ⟨p, 0, none⟩)] W (DecEnd W p v' B out n k')) :
    Calls Tryz.prog 33 #[v] w (GetEnd w out ((B.length : Int) - (k' : Int)) n) := by
  have HN := Lib.hid (new_any v B w hv hn hx)
  have HD := Lib.hid hdec
  have hl : Hid (∀ W p v', Cur W p v' B k' → Calls Tryz.prog 51 #[.pointer (some ⟨p, 0, none⟩)] W fun e w' => e = .returned (.int .i64 ((B.length : Int) - (k' : Int))) ∧ ∃ m, w' = W.drewN m) := fun W p v' h => left_any p k' v' B W h
  obtain ⟨ad, m, c, rfl, -, -⟩ := hv.form
  clear hv hdec
  generalize (B.length : Int) - (k' : Int) = LF at *
  go_enter Tryz.func33, Tryz.ntmps33
  go_wp2_with (first
    | (go_at_call 27; go_loud (refine HN.out.mono ?_; rintro e w1 ⟨p, v1, rfl, hp, cur1, k1⟩))
    | (go_at_call 29; go_loud (refine (HD.out _ _ _ cur1).mono ?_; rintro e w2 ⟨r2, rfl, rd2, -, cur2, k2⟩))
    | (go_at_call 51; go_loud (refine (hl.out _ _ _ cur2).mono ?_; rintro e w3 ⟨rfl, mq, rfl⟩))
    | (go_at_call 16; go_loud (refine (no_any _ _).mono ?_; rintro e w4 ⟨rfl, rfl⟩)))
  exact bodyPost_ret (v := .tuple #[r2, .int .i64 LF, .int .i64 n]) (by simp [results, Tryz.results33]) rfl ⟨_, rfl, rd2.drewN mq, (k1.trans k2 (fun j hj hlt => by simp at hj; omega)).drewN mq⟩
end

section
set_option linter.unusedVariables false
set_option linter.unusedSimpArgs false
set_option linter.unusedSectionVars false
open Go.RowKit

/-- The tree of weights, with a position; or an error. -/
def finW (L : List Int) (K : Nat) : Except Int (List Int × Nat) := if okW L = true then .ok (tOf L, K) else .error 12
/-- The tree that a description at k says, and the position behind it; or an error. -/
def getW (B : List Int) (k : Nat) : Except Int (List Int × Nat) :=
  if numE B k 255 ≠ 0 then .error (numE B k 255) else
  if numX B k 255 = 0 then .error 12 else
  if B.length ≤ numK B k 255 then .error 3 else
  if byteX B (numK B k 255) = 0 then
    (if halvE B (numK B k 255 + 1) (numX B k 255) ≠ 0 then .error (halvE B (numK B k 255 + 1) (numX B k 255)) else
      finW (halvX B (numK B k 255 + 1) (numX B k 255)) (bytesK B (numK B k 255 + 1) (((numX B k 255 + 1) / 2 : Nat) : Int)))
  else if byteX B (numK B k 255) = 1 then
    (match (codedR B (numK B k 255 + 1) (numX B k 255)).1 with
      | .error n => .error n
      | .ok L => finW L (codedR B (numK B k 255 + 1) (numX B k 255)).2)
  else .error 12

theorem flowG_len {c : Nat → Cel} : ∀ {k : Nat} {R : List Bool} {now other : Nat} {out o : List Int}, flowG c k R now other out = .ok o → o.length = out.length + k
  | 0, R, now, other, out, o, h => by
    unfold flowG at h
    split at h
    · injection h with h
      rw [← h]; rfl
    · cases h
  | k + 1, R, now, other, out, o, h => by
    unfold flowG at h
    split at h
    · split at h
      · cases h
      · have := flowG_len h
        simp only [List.length_append, List.length_singleton] at this
        omega
    · have := flowG_len h
      simp only [List.length_append, List.length_singleton] at this
      omega
theorem flowD_len {g : Int} {norm B o : List Int} {n : Nat} (h : flowD g norm B n = .ok o) : o.length = n := by
  unfold flowD at h
  split at h
  · cases h
  · split at h
    · cases h
    · unfold flowP at h
      split at h
      · cases h
      · split at h
        · cases h
        · have := flowG_len h
          simpa using this
theorem codedR_len {B o : List Int} {k m : Nat} (h : (codedR B k m).1 = .ok o) : o.length = m := by
  unfold codedR at h
  split at h
  · cases h
  · split at h
    · cases h
    · split at h
      · cases h
      · exact flowD_len h
theorem numX_most {B : List Int} {k M : Nat} (h : numE B k M = 0) : numX B k M ≤ M := by
  unfold numX
  rw [if_pos h]
  unfold numE at h
  split at h
  · cases h
  · omega
/-! Without a cursor. -/
/-- How the reference's Get ends. -/
def GtRef (w : World) (Z : Except Int (List Int × Nat)) (e : Ending) (w' : World) : Prop :=
  Keeps w w' [] ∧ match Z with
    | .ok (L, K) => ∃ r, e = .returned (.tuple #[r, .int .i64 (K : Int), .int .i64 0]) ∧ RdI .i64 w' r L
    | .error n => n ≠ 0 ∧ ∃ (r : Value) (N : Nat), e = .returned (.tuple #[r, .int .i64 (N : Int), .int .i64 n]) ∧ RdI .i64 w' r []

set_option maxRecDepth 100000 in
set_option maxHeartbeats 8000000 in
theorem r16get_any (k : Nat) (v : Value) (B : List Int) (w : World) (hv : RdI .u8 w v B) (hl : B.length ≤ 100000) (hb : ∀ x ∈ B, 0 ≤ x ∧ x ≤ 255) (hk : k ≤ B.length) :
    Calls Tryz.prog 25 #[v, .int .i64 (k : Int)] w (GtRef w (getW B k)) := by
  obtain ⟨A0, n, cp, rfl, hn, -⟩ := hv.form
  have HN := Lib.hid (rvnumber_any k 255 _ B w hv (by omega) hb hk (by decide))
  rw [show ((255 : Nat) : Int) = 255 from rfl] at HN
  have hnk := numK_le (M := 255) hk
  have hmost : numE B k 255 = 0 → numX B k 255 ≤ 255 := fun h => numX_most h
  have hcap := hv.cap
  obtain ⟨Z, hZ⟩ : ∃ Z, getW B k = Z := ⟨_, rfl⟩
  rw [hZ]
  unfold getW at hZ
  obtain ⟨NX, hNX⟩ : ∃ N, numX B k 255 = N := ⟨_, rfl⟩
  obtain ⟨NK, hNK⟩ : ∃ N, numK B k 255 = N := ⟨_, rfl⟩
  obtain ⟨NE, hNE⟩ : ∃ N, numE B k 255 = N := ⟨_, rfl⟩
  rw [hNX, hNK, hNE] at HN hZ
  rw [hNK] at hnk
  rw [hNX, hNE] at hmost
  clear hNX hNK hNE
  by_cases hE : NE = 0
  · subst hE
    rw [if_neg (by simp)] at hZ
    have hNX5 := hmost rfl
    by_cases hX : NX = 0
    · subst hX
      rw [if_pos rfl] at hZ
      subst hZ
      clear hv hl hb hk hmost hn
      go_enter Tryz.func25, Tryz.ntmps25
      go_wp2_with (first
        | (go_at_call 45; go_loud (refine HN.out.mono ?_; rintro e w1 ⟨rfl, k1⟩)))
      exact bodyPost_ret (v := .tuple #[.slice none 0 0, .int .i64 (k : Int), .int .i64 12]) (by simp only [results, Tryz.results25]; go_simp) rfl ⟨k1, by decide, _, k, rfl, .nil⟩
    · rw [if_neg hX] at hZ
      have hX1 : ((NX : Int) == 0) = false := by simp; omega
      have hX2 : (NX == 0) = false := by simpa using hX
      by_cases hS : B.length ≤ NK
      · rw [if_pos hS] at hZ
        subst hZ
        have hge : decide ((n : Int) ≤ (NK : Int)) = true := decide_eq_true (by omega)
        have hgeN : decide (n ≤ NK) = true := decide_eq_true (by omega)
        clear hv hl hb hk hmost hn
        go_enter Tryz.func25, Tryz.ntmps25
        go_wp2_with (first
          | (go_at_call 45; go_loud (refine HN.out.mono ?_; rintro e w1 ⟨rfl, k1⟩)))
        exact bodyPost_ret (v := .tuple #[.slice none 0 0, .int .i64 (k : Int), .int .i64 3]) (by simp only [results, Tryz.results25]; go_simp) rfl ⟨k1, by decide, _, k, rfl, .nil⟩
      · rw [if_neg hS] at hZ
        have hge : decide ((n : Int) ≤ (NK : Int)) = false := decide_eq_false (by omega)
        have hgeN : decide (n ≤ NK) = false := decide_eq_false (by omega)
        obtain ⟨x, hx⟩ : ∃ x, B[NK]? = some x := ⟨_, List.getElem?_eq_getElem (by omega)⟩
        obtain ⟨b0, o, rfl, hbb, hc⟩ := hv.at hx
        have hNKn : (NK : Int) < (n : Int) := by omega
        rw [byteX_some hx] at hZ
        by_cases hx0 : x = 0
        · subst hx0
          rw [if_pos rfl] at hZ
          have HH := Lib.hid (fun W (kk : Keeps w W []) => rhalv_any (NK + 1) NX _ B W (hv.keeps kk) hl hb (by omega) (by omega) (by omega))
          rw [show ((NK + 1 : Nat) : Int) = (NK : Int) + 1 from by omega] at HH
          obtain ⟨NK1, hNK1⟩ : ∃ D : Int, (NK : Int) + 1 = D := ⟨_, rfl⟩
          have hwN : wrap64 NK1 = NK1 := IntWalk.wrap64_in _ ⟨by omega, by omega⟩
          rw [hNK1] at HH
          have hxl : (halvX B (NK + 1) NX).length ≤ 255 := by unfold halvX; rw [List.length_take]; omega
          obtain ⟨L, hL⟩ : ∃ L, halvX B (NK + 1) NX = L := ⟨_, rfl⟩
          obtain ⟨HE, hHE⟩ : ∃ L, halvE B (NK + 1) NX = L := ⟨_, rfl⟩
          obtain ⟨KB, hKB⟩ : ∃ L, bytesK B (NK + 1) (((NX + 1) / 2 : Nat) : Int) = L := ⟨_, rfl⟩
          rw [hL, hHE, hKB] at HH hZ
          rw [hL] at hxl
          have HT := Lib.hid (fun W u (h : RdI .i64 W u L) => r_tree u L W h (by omega))
          clear hv hl hb hk hmost hn hx hL hHE hKB
          by_cases hh : HE = 0
          · subst hh
            rw [if_neg (by simp)] at hZ
            unfold finW at hZ
            cases ht : okW L with
            | true =>
              rw [ht, if_pos rfl] at hZ
              subst hZ
              have ht1 : treeOut L = tOf L := by simp [treeOut, ht]
              have ht2 : treeErr L = 0 := by simp [treeErr, ht]
              rw [ht1, ht2] at HT
              clear ht1 ht2 ht
              go_enter Tryz.func25, Tryz.ntmps25
              go_wp2_with (first
                | (go_at_call 45; go_loud (refine HN.out.mono ?_; rintro e w1 ⟨rfl, k1⟩; have c1 := (k1.cell (p := ⟨b0, o + NK, none⟩) hbb (by simp)).trans hc))
                | (go_at_call 46; go_loud (refine (HH.out _ k1).mono ?_; rintro e w2 ⟨k2, r, N, rfl, hr⟩; have kk2 := k1.then k2; obtain ⟨rd2, rfl⟩ := hr rfl; have RD2 := Lib.hid rd2; clear rd2 hr))
                | (go_at_call 18; go_loud (refine (HT.out _ _ RD2.out).mono ?_; rintro e w3 ⟨v3, rfl, rd3, -, k3⟩; have kk3 := kk2.then k3; have RD3 := Lib.hid rd3; clear rd3)))
              exact bodyPost_ret (v := .tuple #[v3, .int .i64 (N : Int), .int .i64 0]) (by simp only [results, Tryz.results25]; go_simp) rfl ⟨kk3, v3, rfl, RD3.out⟩
            | false =>
              rw [ht, if_neg (by simp)] at hZ
              subst hZ
              have ht1 : treeOut L = [] := by simp [treeOut, ht]
              have ht2 : treeErr L = 12 := by simp [treeErr, ht]
              rw [ht1, ht2] at HT
              clear ht1 ht2 ht
              go_enter Tryz.func25, Tryz.ntmps25
              go_wp2_with (first
                | (go_at_call 45; go_loud (refine HN.out.mono ?_; rintro e w1 ⟨rfl, k1⟩; have c1 := (k1.cell (p := ⟨b0, o + NK, none⟩) hbb (by simp)).trans hc))
                | (go_at_call 46; go_loud (refine (HH.out _ k1).mono ?_; rintro e w2 ⟨k2, r, N, rfl, hr⟩; have kk2 := k1.then k2; obtain ⟨rd2, rfl⟩ := hr rfl; have RD2 := Lib.hid rd2; clear rd2 hr))
                | (go_at_call 18; go_loud (refine (HT.out _ _ RD2.out).mono ?_; rintro e w3 ⟨v3, rfl, rd3, -, k3⟩; have kk3 := kk2.then k3; have RD3 := Lib.hid rd3; clear rd3)))
              exact bodyPost_ret (v := .tuple #[v3, .int .i64 (N : Int), .int .i64 12]) (by simp only [results, Tryz.results25]; go_simp) rfl ⟨kk3, by decide, v3, N, rfl, RD3.out⟩
          · rw [if_pos hh] at hZ
            subst hZ
            have hh1 : (HE != 0) = true := by simpa using hh
            have hh2 : (HE == 0) = false := by simpa using hh
            have HH0 := Lib.hid hh
            clear hh HT
            go_enter Tryz.func25, Tryz.ntmps25
            go_wp2_with (first
              | (go_at_call 45; go_loud (refine HN.out.mono ?_; rintro e w1 ⟨rfl, k1⟩; have c1 := (k1.cell (p := ⟨b0, o + NK, none⟩) hbb (by simp)).trans hc))
              | (go_at_call 46; go_loud (refine (HH.out _ k1).mono ?_; rintro e w2 ⟨k2, r, N, rfl, hr⟩; have kk2 := k1.then k2; clear hr)))
            exact bodyPost_ret (v := .tuple #[.slice none 0 0, .int .i64 (k : Int), .int .i64 HE]) (by simp only [results, Tryz.results25]; go_simp) rfl ⟨kk2, HH0.out, _, k, rfl, .nil⟩
        · rw [if_neg hx0] at hZ
          have hx01 : (x == 0) = false := by simpa using hx0
          by_cases hx1 : x = 1
          · subst hx1
            rw [if_pos rfl] at hZ
            have HH := Lib.hid (fun W (kk : Keeps w W []) => rcoded_any (NK + 1) NX _ B W (hv.keeps kk) hl hb (by omega) (by omega) (by omega))
            rw [show ((NK + 1 : Nat) : Int) = (NK : Int) + 1 from by omega] at HH
            obtain ⟨NK1, hNK1⟩ : ∃ D : Int, (NK : Int) + 1 = D := ⟨_, rfl⟩
            have hwN : wrap64 NK1 = NK1 := IntWalk.wrap64_in _ ⟨by omega, by omega⟩
            rw [hNK1] at HH
            unfold CodRef at HH
            have hcl : ∀ o, (codedR B (NK + 1) NX).1 = .ok o → o.length = NX := fun o h => codedR_len h
            obtain ⟨CR, hCR⟩ : ∃ L, codedR B (NK + 1) NX = L := ⟨_, rfl⟩
            rw [hCR] at HH hZ hcl
            obtain ⟨C1, C2⟩ := CR
            simp only at HH hZ hcl
            clear hv hl hb hk hmost hn hx hCR
            cases C1 with
            | error er =>
              simp only at HH hZ
              subst hZ
              clear hcl
              go_enter Tryz.func25, Tryz.ntmps25
              go_wp2_with (first
                | (go_at_call 45; go_loud (refine HN.out.mono ?_; rintro e w1 ⟨rfl, k1⟩; have c1 := (k1.cell (p := ⟨b0, o + NK, none⟩) hbb (by simp)).trans hc))
                | (go_at_call 47; go_loud (refine (HH.out _ k1).mono ?_; rintro e w2 ⟨k2, her, r, N, rfl⟩; have kk2 := k1.then k2; have her1 : (er != 0) = true := (by simpa using her); have her2 : (er == 0) = false := (by simpa using her); have HER := Lib.hid her; clear her)))
              exact bodyPost_ret (v := .tuple #[.slice none 0 0, .int .i64 (k : Int), .int .i64 er]) (by simp only [results, Tryz.results25]; go_simp) rfl ⟨kk2, HER.out, _, k, rfl, .nil⟩
            | ok L =>
              have hxl := hcl L rfl
              have HT := Lib.hid (fun W u (h : RdI .i64 W u L) => r_tree u L W h (by omega))
              simp only at HH hZ
              clear hcl
              unfold finW at hZ
              cases ht : okW L with
              | true =>
                rw [ht, if_pos rfl] at hZ
                subst hZ
                have ht1 : treeOut L = tOf L := by simp [treeOut, ht]
                have ht2 : treeErr L = 0 := by simp [treeErr, ht]
                rw [ht1, ht2] at HT
                clear ht1 ht2 ht hxl
                go_enter Tryz.func25, Tryz.ntmps25
                go_wp2_with (first
                  | (go_at_call 45; go_loud (refine HN.out.mono ?_; rintro e w1 ⟨rfl, k1⟩; have c1 := (k1.cell (p := ⟨b0, o + NK, none⟩) hbb (by simp)).trans hc))
                  | (go_at_call 47; go_loud (refine (HH.out _ k1).mono ?_; rintro e w2 ⟨k2, r, rfl, rd2⟩; have kk2 := k1.then k2; have RD2 := Lib.hid rd2; clear rd2))
                  | (go_at_call 18; go_loud (refine (HT.out _ _ RD2.out).mono ?_; rintro e w3 ⟨v3, rfl, rd3, -, k3⟩; have kk3 := kk2.then k3; have RD3 := Lib.hid rd3; clear rd3)))
                exact bodyPost_ret (v := .tuple #[v3, .int .i64 (C2 : Int), .int .i64 0]) (by simp only [results, Tryz.results25]; go_simp) rfl ⟨kk3, v3, rfl, RD3.out⟩
              | false =>
                rw [ht, if_neg (by simp)] at hZ
                subst hZ
                have ht1 : treeOut L = [] := by simp [treeOut, ht]
                have ht2 : treeErr L = 12 := by simp [treeErr, ht]
                rw [ht1, ht2] at HT
                clear ht1 ht2 ht hxl
                go_enter Tryz.func25, Tryz.ntmps25
                go_wp2_with (first
                  | (go_at_call 45; go_loud (refine HN.out.mono ?_; rintro e w1 ⟨rfl, k1⟩; have c1 := (k1.cell (p := ⟨b0, o + NK, none⟩) hbb (by simp)).trans hc))
                  | (go_at_call 47; go_loud (refine (HH.out _ k1).mono ?_; rintro e w2 ⟨k2, r, rfl, rd2⟩; have kk2 := k1.then k2; have RD2 := Lib.hid rd2; clear rd2))
                  | (go_at_call 18; go_loud (refine (HT.out _ _ RD2.out).mono ?_; rintro e w3 ⟨v3, rfl, rd3, -, k3⟩; have kk3 := kk2.then k3; have RD3 := Lib.hid rd3; clear rd3)))
                exact bodyPost_ret (v := .tuple #[v3, .int .i64 (C2 : Int), .int .i64 12]) (by simp only [results, Tryz.results25]; go_simp) rfl ⟨kk3, by decide, v3, C2, rfl, RD3.out⟩
          · rw [if_neg hx1] at hZ
            subst hZ
            have hx11 : (x == 1) = false := by simpa using hx1
            clear hv hl hb hk hmost hn hx
            go_enter Tryz.func25, Tryz.ntmps25
            go_wp2_with (first
              | (go_at_call 45; go_loud (refine HN.out.mono ?_; rintro e w1 ⟨rfl, k1⟩; have c1 := (k1.cell (p := ⟨b0, o + NK, none⟩) hbb (by simp)).trans hc)))
            exact bodyPost_ret (v := .tuple #[.slice none 0 0, .int .i64 (k : Int), .int .i64 12]) (by simp only [results, Tryz.results25]; go_simp) rfl ⟨k1, by decide, _, k, rfl, .nil⟩
  · rw [if_pos hE] at hZ
    subst hZ
    have hE1 : (NE != 0) = true := by simpa using hE
    have hE2 : (NE == 0) = false := by simpa using hE
    have HE := Lib.hid hE
    clear hv hl hb hk hmost hE hn
    go_enter Tryz.func25, Tryz.ntmps25
    go_wp2_with (first
      | (go_at_call 45; go_loud (refine HN.out.mono ?_; rintro e w1 ⟨rfl, k1⟩)))
    exact bodyPost_ret (v := .tuple #[.slice none 0 0, .int .i64 (k : Int), .int .i64 NE]) (by simp only [results, Tryz.results25]; go_simp) rfl ⟨k1, HE.out, _, k, rfl, .nil⟩
end

section
set_option linter.unusedVariables false
set_option linter.unusedSimpArgs false

/-- One more of c. -/
def upC (h : List Int) (c : Int) : List Int := h.set c.toNat (h.getD c.toNat 0 + 1)
/-- How often each weight occurs. -/
def cntW (l : List Int) : List Int := l.foldl upC (List.replicate 12 0)
/-- All weights are alike. -/
def oneW (l : List Int) : Bool := (cntW l).any (fun n => decide (n = (l.length : Int)))
/-- The counts that are made to a table. -/
def addW (l : List Int) : List Int := if oneW l = true then upC (cntW l) ((l.getD 0 0 + 1) % 12) else cntW l
def nmW (l : List Int) : List Int := normF (addW l) 64 (sumZ (addW l))
def flW (l : List Int) : List Int := flowE 6 (nmW l) (l.map Int.toNat)
def codedE (l : List Int) : List Int := varI l.length ++ [1] ++ descE 6 (nmW l) ++ varI (flW l).length ++ flW l

theorem upC_len (h : List Int) (c : Int) : (upC h c).length = h.length := by simp [upC]
theorem cntW_snoc (l : List Int) (x : Int) : cntW (l ++ [x]) = upC (cntW l) x := by simp [cntW]
theorem upC_get (h : List Int) (c : Int) (i : Nat) (hc : c.toNat < h.length) : (upC h c).getD i 0 = if i = c.toNat then h.getD c.toNat 0 + 1 else h.getD i 0 := by
  unfold upC
  rw [getD_set _ _ _ _ hc]
theorem upC_sum (h : List Int) (c : Int) (hc : c.toNat < h.length) : sumZ (upC h c) = sumZ h + 1 := by
  unfold upC
  rw [sumZ_set _ _ _ hc]
  omega
/-- A row of counts. -/
structure CntOk (h : List Int) (n : Nat) : Prop where
  len : h.length = 12
  low : ∀ i, 0 ≤ h.getD i 0
  sum : sumZ h = (n : Int)
theorem CntOk.up {h : List Int} {n : Nat} (k : CntOk h n) {c : Int} (h0 : 0 ≤ c) (h1 : c ≤ 11) : CntOk (upC h c) (n + 1) := by
  have hc : c.toNat < h.length := by rw [k.len]; omega
  refine ⟨by rw [upC_len, k.len], fun i => ?_, by rw [upC_sum _ _ hc, k.sum]; omega⟩
  rw [upC_get _ _ _ hc]
  have a := k.low c.toNat
  have b := k.low i
  split <;> omega
theorem CntOk.zero : CntOk (List.replicate 12 0) 0 := ⟨by simp, fun i => by
  rw [List.getD_eq_getElem?_getD, List.getElem?_replicate]
  split <;> simp, by decide⟩
theorem cnt_fold : ∀ (l : List Int) (h : List Int) (n : Nat), (∀ x ∈ l, 0 ≤ x ∧ x ≤ 11) → CntOk h n → CntOk (l.foldl upC h) (n + l.length) ∧ ∀ i, h.getD i 0 ≤ (l.foldl upC h).getD i 0 ∧ (((i : Nat) : Int) ∈ l → h.getD i 0 < (l.foldl upC h).getD i 0)
  | [], h, n, _, k => ⟨k, fun i => ⟨Int.le_refl _, fun hm => by cases hm⟩⟩
  | x :: l, h, n, hl, k => by
    obtain ⟨h0, h1⟩ := hl x (by simp)
    have ku := k.up h0 h1
    obtain ⟨a, b⟩ := cnt_fold l (upC h x) (n + 1) (fun y hy => hl y (by simp [hy])) ku
    have hx : x.toNat < h.length := by rw [k.len]; omega
    refine ⟨by rw [List.length_cons, show n + (l.length + 1) = n + 1 + l.length by omega]; exact a, fun i => ?_⟩
    obtain ⟨b1, b2⟩ := b i
    have e := upC_get h x i hx
    have hge : h.getD i 0 ≤ (upC h x).getD i 0 := by
      rw [e]
      split
      · rename_i he
        rw [he]; omega
      · exact Int.le_refl _
    refine ⟨Int.le_trans hge b1, fun hm => ?_⟩
    rcases List.mem_cons.1 hm with he | hm
    · have : i = x.toNat := by omega
      rw [if_pos this] at e
      rw [← this] at e
      show h.getD i 0 < (l.foldl upC (upC h x)).getD i 0
      omega
    · have := b2 hm
      show h.getD i 0 < (l.foldl upC (upC h x)).getD i 0
      omega
theorem cntW_ok {l : List Int} (hl : ∀ x ∈ l, 0 ≤ x ∧ x ≤ 11) : CntOk (cntW l) l.length ∧ ∀ i : Nat, ((i : Nat) : Int) ∈ l → 0 < (cntW l).getD i 0 := by
  obtain ⟨a, b⟩ := cnt_fold l _ 0 hl CntOk.zero
  rw [Nat.zero_add] at a
  refine ⟨a, fun i hi => ?_⟩
  have := (b i).2 hi
  have h0 := CntOk.zero.low i
  exact Int.lt_of_le_of_lt h0 this
theorem addW_ok {l : List Int} (hl : ∀ x ∈ l, 0 ≤ x ∧ x ≤ 11) : ∃ n, l.length ≤ n ∧ n ≤ l.length + 1 ∧ CntOk (addW l) n ∧ ∀ i : Nat, ((i : Nat) : Int) ∈ l → 0 < (addW l).getD i 0 := by
  obtain ⟨a, b⟩ := cntW_ok hl
  unfold addW
  split
  · have h0 : 0 ≤ (l.getD 0 0 + 1) % 12 := by omega
    have h1 : (l.getD 0 0 + 1) % 12 ≤ 11 := by omega
    refine ⟨l.length + 1, by omega, by omega, a.up h0 h1, fun i hi => ?_⟩
    have hc : ((l.getD 0 0 + 1) % 12).toNat < (cntW l).length := by rw [a.len]; omega
    rw [upC_get _ _ _ hc]
    have := b i hi
    have := a.low ((l.getD 0 0 + 1) % 12).toNat
    split <;> omega
  · exact ⟨l.length, by omega, by omega, a, b⟩
theorem posN_some : ∀ (l : List Int) (i : Nat), 0 < l.getD i 0 → 0 < posN l
  | [], i, h => by simp at h
  | c :: l, 0, h => by
    have := (posN_bound l).1
    have h' : 0 < c := h
    rw [posN, if_pos h']
    omega
  | c :: l, i + 1, h => by
    have h' : 0 < l.getD i 0 := by simpa using h
    have := posN_some l i h'
    rw [posN]
    split <;> omega

/-- The table that is made of the counts. -/
theorem nmW_ok {l : List Int} (hl : ∀ x ∈ l, 0 ≤ x ∧ x ≤ 11) (h0 : 0 < l.length) : 
    TblOk 6 (nmW l) ∧ (nmW l).getD ((nmW l).length - 1) 0 ≠ 0 ∧ (nmW l).length = usedN (addW l) 12 ∧ (nmW l).length ≤ 12 ∧ symsOk (nmW l) (l.map Int.toNat) ∧ (addW l).length = 12 ∧ 0 < sumZ (addW l) ∧ sumZ (addW l) ≤ (l.length : Int) + 1 ∧ (∀ x ∈ addW l, 0 ≤ x) ∧ 0 < posN (addW l) ∧ posN (addW l) ≤ 64 := by
  obtain ⟨n, n1, n2, k, m⟩ := addW_ok hl
  have hlen := k.len
  have hpb := posN_bound (addW l)
  have hx0 : ∃ x, x ∈ l := ⟨_, List.getElem_mem h0⟩
  obtain ⟨x, hx⟩ := hx0
  have hxb := hl x hx
  have hp0 : 0 < posN (addW l) := posN_some _ x.toNat (m _ (by rw [Int.toNat_of_nonneg hxb.1]; exact hx))
  have hp : posN (addW l) ≤ 64 := by omega
  have hs := k.sum
  have hu := usedN_pos hp0
  have hT : 0 < sumZ (addW l) := by omega
  have hpos : ∀ i, i < (addW l).length → 0 ≤ (addW l).getD i 0 := fun i _ => k.low i
  obtain ⟨t1, t2, t3, t4⟩ := normF_ok (S := 64) (log := 6) (C := addW l) (T := sumZ (addW l)) (by decide) (by decide) hT rfl hpos hp hu (by omega)
  have hul := usedN_le (addW l) (addW l).length
  refine ⟨t1, t2, by rw [← hlen]; exact t3, ?_, fun s hs' => ?_, hlen, hT, by omega, fun y hy => ?_, hp0, hp⟩
  · show (normF _ _ _).length ≤ 12
    rw [t3]; omega
  · obtain ⟨y, hy, rfl⟩ := List.mem_map.1 hs'
    have hyb := hl y hy
    have := t4 y.toNat (by omega) (m _ (by rw [Int.toNat_of_nonneg hyb.1]; exact hy))
    exact this
  · obtain ⟨j, hj⟩ := List.getElem?_of_mem hy
    have := k.low j
    rw [List.getD_eq_getElem?_getD, hj] at this
    exact this
theorem okN_of {g : Nat} {norm : List Int} (h : TblOk g norm) (hl : norm.getD (norm.length - 1) 0 ≠ 0) : okN (g : Int) norm 256 9 = true := by
  have := h.g9
  have := h.len
  exact decide_eq_true ⟨by omega, by omega, h.pos, by omega, hl, h.low, by rw [h.sum]; simp⟩
theorem last_of {l : List Int} (h0 : 0 < l.length) (hl : l.getD (l.length - 1) 0 ≠ 0) : l.getLast? ≠ some 0 := by
  rw [List.getLast?_eq_getElem?]
  intro h
  rw [List.getD_eq_getElem?_getD, h] at hl
  exact hl rfl
theorem descE_len {g : Nat} {norm : List Int} (h : TblOk g norm) (hn : norm.length ≤ 12) : (descE g norm).length ≤ 200 := by
  have h1 := packB_len (descL g norm)
  have h9 : 2 ^ g ≤ 2 ^ 9 := Nat.pow_le_pow_right (by decide) h.g9
  rw [show (2 : Nat) ^ 9 = 512 by decide] at h9
  have h2 := normsE_len (f := norm.length) (l := norm) h9
  unfold descE descL at *
  rw [List.length_append, bitsN_len] at h1
  omega
theorem flowB_len {g : Nat} {norm : List Int} (h : TblOk g norm) {l : List Nat} (hl : symsOk norm l) : (flowB g norm l).length ≤ 9 * l.length + 18 := by
  have h1 := encG_bits h hl
  have h9 := h.g9
  unfold flowB
  split
  all_goals (try split)
  all_goals simp only [List.length_append, bitsN_len, List.length_nil, List.append_assoc]
  all_goals omega

theorem flW_len {l : List Int} (hl : ∀ x ∈ l, 0 ≤ x ∧ x ≤ 11) (h0 : 0 < l.length) (h255 : l.length ≤ 255) : (flW l).length ≤ 2400 := by
  obtain ⟨t1, -, -, -, t5, -⟩ := nmW_ok hl h0
  have h1 := packB_len (flowB 6 (nmW l) (l.map Int.toNat) ++ [true])
  have h2 := flowB_len t1 t5
  rw [List.length_append, List.length_singleton] at h1
  rw [List.length_map] at h2
  unfold flW flowE
  omega
theorem drop_app {B L Z : List Int} {k : Nat} (h : B.drop k = L ++ Z) : B.drop (k + L.length) = Z := by
  rw [← List.drop_drop, h]; simp
theorem bytes_read {B L Z : List Int} {k : Nat} (h : B.drop k = L ++ Z) (hL : 0 < L.length) : bytesE B k (L.length : Int) = 0 ∧ bytesX B k (L.length : Int) = L ∧ bytesK B k (L.length : Int) = k + L.length := by
  have hb : L.length + Z.length = B.length - k := by rw [← List.length_append, ← h, List.length_drop]
  have hE : bytesE B k (L.length : Int) = 0 := by unfold bytesE; rw [if_neg (by omega), if_neg (by omega)]
  unfold bytesX bytesK
  rw [if_pos hE, if_pos hE, Int.toNat_natCast, h, List.take_left' rfl]
  exact ⟨hE, rfl, rfl⟩
theorem map_cast {l : List Int} (hl : ∀ x ∈ l, 0 ≤ x ∧ x ≤ 11) : (l.map Int.toNat).map (fun (s : Nat) => (s : Int)) = l := by
  rw [List.map_map]
  conv => rhs; rw [← List.map_id l]
  refine List.map_congr_left (fun x hx => ?_)
  have := (hl x hx).1
  simp only [Function.comp, id]
  omega
theorem flowE_pos (g : Nat) (norm : List Int) (l : List Nat) : 0 < (flowE g norm l).length := by
  have h := (mark_top (L := flowB g norm l)).1
  unfold flowE
  by_cases h0 : 0 < (packB (flowB g norm l ++ [true])).length
  · exact h0
  · exfalso
    have : packB (flowB g norm l ++ [true]) = [] := List.eq_nil_of_length_eq_zero (by omega)
    rw [this] at h
    exact h rfl
/-- What stands behind the first two parts of a description in format 1 is read back. -/
theorem codedR_read {B l Z : List Int} {k : Nat} (hl : ∀ x ∈ l, 0 ≤ x ∧ x ≤ 11) (h0 : 0 < l.length) (h255 : l.length ≤ 255) (h : B.drop k = descE 6 (nmW l) ++ (varI (flW l).length ++ (flW l ++ Z))) :
    codedR B k l.length = (.ok l, k + (descE 6 (nmW l)).length + (varI (flW l).length).length + (flW l).length) := by
  obtain ⟨t1, t2, t3, t4, t5, -⟩ := nmW_ok hl h0
  have hdl := descE_len t1 t4
  have hfl := flW_len hl h0 h255
  have hd : descP ((B.drop k).take 1024) 12 6 = .ok (6, nmW l, (descE 6 (nmW l)).length) := by
    rw [h, List.take_append, List.take_of_length_le (by omega)]
    exact descP_descE (by decide) (by decide) (Nat.le_refl 6) t4 t1.low t1.sum (last_of t1.pos t2)
  have h1 := drop_app h
  obtain ⟨n1, n2, n3⟩ := num_read (M := 131072) (by omega) (by omega) h1
  have h2 := drop_app h1
  obtain ⟨b1, b2, b3⟩ := bytes_read h2 (flowE_pos _ _ _)
  unfold codedR
  rw [hd]
  simp only
  rw [n1, n2, n3, if_neg (by simp), b1, if_neg (by simp), b2, b3]
  have hf := flowD_flowE t1 (okN_of t1 t2) t5
  rw [List.length_map, map_cast hl] at hf
  change flowD (6 : Int) (nmW l) (flW l) l.length = _ at hf
  show (flowD (6 : Int) (nmW l) (flW l) l.length, _) = _
  rw [hf]
theorem okW_len {l : List Int} (h : okW l = true) : 0 < l.length ∧ l.length ≤ 255 := by
  simp only [okW, lenW, Bool.and_eq_true] at h
  simp at h
  omega
/-- A description in format 1 is read back, whatever follows. -/
theorem getW_coded {B l Z : List Int} {k : Nat} (hw : okW l = true) (h : B.drop k = codedE l ++ Z) : getW B k = .ok (tOf l, k + (codedE l).length) := by
  have hl := okW_bound hw
  obtain ⟨h0, h255⟩ := okW_len hw
  have e : codedE l ++ Z = varI l.length ++ (1 :: (descE 6 (nmW l) ++ (varI (flW l).length ++ (flW l ++ Z)))) := by simp [codedE]
  have elen : (codedE l).length = (varI l.length).length + 1 + ((descE 6 (nmW l)).length + (varI (flW l).length).length + (flW l).length) := by simp [codedE]; omega
  rw [e] at h
  obtain ⟨n1, n2, n3⟩ := num_read (M := 255) (by omega) h255 h
  obtain ⟨x1, x2, x3⟩ := byteX_drop (drop_app h)
  have hc := codedR_read hl h0 h255 x3
  unfold getW
  rw [n2, if_neg (by simp), n1, if_neg (by omega), n3, if_neg (by omega), x2, if_neg (by decide), if_pos rfl, hc]
  simp only
  unfold finW
  rw [if_pos hw, elen]
  congr 2
  omega
/-- A description in format 0 is read back, whatever follows. -/
theorem nibX_nibF : ∀ l : List Int, (∀ x ∈ l, 0 ≤ x ∧ x ≤ 11) → (nibX (nibF l)).take l.length = l ∧ ((nibX (nibF l))[l.length]?).getD 0 = 0
  | [], _ => by simp [nibF, nibX]
  | [a], h => by
    have := h a (by simp)
    have e1 : a % 16 = a := by omega
    have e2 : a / 16 = 0 := by omega
    simp [nibF, nibX, e1, e2]
  | a :: b :: l, h => by
    have h1 := h a (by simp)
    have h2 := h b (by simp)
    obtain ⟨i1, i2⟩ := nibX_nibF l (fun x hx => h x (by simp [hx]))
    have e1 : (a + 16 * b) % 16 = a := by omega
    have e2 : (a + 16 * b) / 16 = b := by omega
    simp only [nibF, nibX, e1, e2, List.length_cons]
    refine ⟨by simp [i1], by simpa using i2⟩
theorem getW_halves {B l Z : List Int} {k : Nat} (hw : okW l = true) (h : B.drop k = halvesL l ++ Z) : getW B k = .ok (tOf l, k + (halvesL l).length) := by
  have hl := okW_bound hw
  obtain ⟨h0, h255⟩ := okW_len hw
  have e : halvesL l ++ Z = varI l.length ++ (0 :: (nibF l ++ Z)) := by simp [halvesL]
  have elen : (halvesL l).length = (varI l.length).length + 1 + (nibF l).length := by simp [halvesL]; omega
  rw [e] at h
  obtain ⟨n1, n2, n3⟩ := num_read (M := 255) (by omega) h255 h
  obtain ⟨x1, x2, x3⟩ := byteX_drop (drop_app h)
  have hnl := nib_len l
  obtain ⟨b1, b2, b3⟩ := bytes_read x3 (by omega)
  rw [hnl] at b1 b2 b3
  obtain ⟨i1, i2⟩ := nibX_nibF l hl
  have hE : halvE B (k + (varI l.length).length + 1) l.length = 0 := by
    unfold halvE
    rw [b1, if_neg (by simp), b2, i2, if_pos rfl]
  have hX : halvX B (k + (varI l.length).length + 1) l.length = l := by
    unfold halvX
    rw [b2, i1]
  unfold getW
  rw [n2, if_neg (by simp), n1, if_neg (by omega), n3, if_neg (by omega), x2, if_pos rfl, hE, if_neg (by simp), hX, b3]
  unfold finW
  rw [if_pos hw, elen, hnl]
  congr 2
  omega
end

end Go.Proofs.YtophgpnnjphnmaaGreat
