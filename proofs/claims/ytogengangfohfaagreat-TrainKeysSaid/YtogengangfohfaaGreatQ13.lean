/-
  Walks over package train: Score.
  The reference of training: May, has, keys, Known.
  The reference of training: keys, Known.
  The reference of training: worth, Worth.
-/
import Derived.Test.YtogengangfohfaaGreatQ3
import Derived.Test.YtogengangfohfaaGreatQ12
import Derived.Test.YtogengangfohfaaGreatQ11
namespace Go.Proofs.YtogengangfohfaaGreat
section
set_option linter.unusedVariables false
set_option linter.unusedSimpArgs false
set_option linter.unusedSectionVars false
open Go.RowKit

theorem Tryz.fieldLook (u : Value) (w : World) (h : u.oneCell' = true) : (Instr.field 83 (.agg #[u]) 0).run Tryz.prog w = .ok u w := by
  cases u <;> first | kernel_rfl | (simp [Value.oneCell'] at h)

def scoreN (b : List Int) (l : List (List Int)) : Nat := if mayL l then wkL (cntL l) [] b else 0
def badN (l : List (List Int)) : Int := if mayL l then 0 else 2

set_option maxRecDepth 100000 in
set_option maxHeartbeats 1000000 in
theorem score_any (vb v : Value) (b : List Int) (l : List (List Int)) (w : World) (hvb : RdI .u8 w vb b) (hb : ∀ x ∈ b, 0 ≤ x ∧ x ≤ 255) (hbl : b.length ≤ 1000000) (hv : RdL .u8 w v l) (hl : ∀ b ∈ l, ∀ x ∈ b, 0 ≤ x ∧ x ≤ 255) (hll : l.length ≤ 1000000000) :
    Calls Tryz.prog 14 #[vb, v] w fun e w' => e = .returned (.tuple #[.int .i64 (scoreN b l), .int .i64 (badN l)]) ∧ Keeps w w' [] := by
  have hmf : ∀ (fn : Fn) (first cap : Array Value) (w : World), (Instr.makeFunc fn first cap).run Tryz.prog w = .ok (.func fn first cap) w := fun _ _ _ _ => rfl
  have k0 : Keeps w ((w.alloc (.cells #[.int .i64 0] 3)).alloc (.cells #[.int .i64 0] 34)) [] := ((Keeps.refl w []).alloc _).alloc _
  have bo := (Blk.new w #[.int .i64 0] 3).alloc (.cells #[.int .i64 0] 34)
  have be := Blk.new (w.alloc (.cells #[.int .i64 0] 3)) #[.int .i64 0] 34
  simp only [World.size_alloc] at be
  have hv0 := hv.keeps k0
  have HO := Lib.hid (of_any v l _ hv0 hll)
  have HVB := Lib.hid hvb
  have HV := Lib.hid hv
  have HL := Lib.hid hl
  have HB := Lib.hid hb
  have HS1 : mayL l → scoreN b l = wkL (cntL l) [] b := fun h => by unfold scoreN; rw [if_pos h]
  have HS2 : ¬ mayL l → scoreN b l = 0 := fun h => by unfold scoreN; rw [if_neg h]
  have HN1 : mayL l → badN l = 0 := fun h => by unfold badN; rw [if_pos h]
  have HN2 : ¬ mayL l → badN l = 2 := fun h => by unfold badN; rw [if_neg h]
  generalize scoreN b l = SC at *
  generalize badN l = BN at *
  obtain ⟨A0, n0, cp0, rfl, -, -⟩ := hvb.form
  obtain ⟨A1, n1, cp1, rfl, -, -⟩ := hv.form
  have hfl := fun w => Tryz.fieldLook (.slice A1 n1 cp1) w rfl
  have H1 := Lib.hid HS1
  have H2 := Lib.hid HS2
  have H3 := Lib.hid HN1
  have H4 := Lib.hid HN2
  clear hvb hb hv hl hv0 HS1 HS2 HN1 HN2
  go_enter_defers Tryz.func14, Tryz.ntmps14
  go_wp2_with fail
  generalize ((w.alloc (.cells #[.int .i64 0] 3)).alloc (.cells #[.int .i64 0] 34)) = W0 at *
  refine HO.out.mono ?_
  rintro e w1 ⟨k1, (⟨hm, rfl⟩ | ⟨hm, rfl⟩)⟩
  · replace bo := bo.keeps k1 (by simp)
    replace be := be.keeps k1 (by simp)
    replace k0 := k0.then k1
    have E1 := Lib.hid (H1.out hm)
    have e3 := H3.out hm
    subst e3
    have HK := Lib.hid (known_any _ l w1 (HV.out.keeps k0) HL.out hm.1 hm.2)
    have hlm := hm.1
    clear k1 HO H1 H2 H3 H4 hm
    go_wp2_with fail
    refine HK.out.mono ?_
    rintro e w2 ⟨rfl, ⟨n, hn, mp⟩, k2⟩
    replace bo := bo.keeps k2 (by simp)
    replace be := be.keeps k2 (by simp)
    replace k0 := k0.then k2
    have HW := Lib.hid (worth_any _ b w1.heap.size n _ (cntL l) [] w2 (HVB.out.keeps k0) HB.out hbl mp (fun q => by rw [knownF_get]; simp) (fun q => by have := cnt_le l q; omega))
    rw [← E1.out] at HW
    clear k2 mp HK E1
    go_wp2_with fail
    refine HW.out.mono ?_
    rintro e w3 ⟨rfl, k3⟩
    replace bo := bo.keeps k3 (by simp)
    replace be := be.keeps k3 (by simp)
    replace k0 := k0.then k3
    clear k3 HW
    obtain ⟨e0, e1⟩ := be.one
    obtain ⟨o0, o1⟩ := bo.one
    go_wp2_with fail
    refine leaves_cons (f := 42) (args := #[.pointer (some ⟨w.heap.size + 1, 0, none⟩), .func (.func 43) #[] #[.pointer (some ⟨w.heap.size, 0, none⟩)]]) (by simp) (by simp [go_sem]) ?_
    refine (tcaught_idle _ _ _).mono ?_
    rintro e u' w'' ⟨rfl, rfl, rfl⟩
    refine ⟨.tuple #[.int .i64 SC, .int .i64 0], by simp only [results, Tryz.results14]; go_simp, ?_⟩
    refine ⟨rfl, by repeat (first | exact k0 | refine Keeps.setCell' (.inl (by dsimp only; omega)) ?_)⟩
  · replace bo := bo.keeps k1 (by simp)
    replace be := be.keeps k1 (by simp)
    replace k0 := k0.then k1
    have e1 := H2.out hm
    have e3 := H4.out hm
    subst e1 e3
    clear k1 HO H1 H2 H3 H4 hm
    obtain ⟨e0, e1⟩ := be.one
    obtain ⟨o0, o1⟩ := bo.one
    go_wp2_with fail
    refine leaves_cons (f := 42) (args := #[.pointer (some ⟨w.heap.size + 1, 0, none⟩), .func (.func 43) #[] #[.pointer (some ⟨w.heap.size, 0, none⟩)]]) (by simp) (by simp [go_sem]) ?_
    refine (tcaught_score _ _ 2 _ _ _ _ [] _ be bo (by omega)).mono ?_
    rintro e u' w'' ⟨rfl, rfl, rfl⟩
    refine ⟨.tuple #[.int .i64 0, .int .i64 2], by simp only [results, Tryz.results14]; go_simp, ?_⟩
    refine ⟨rfl, ?_⟩
    exact Keeps.setCell' (.inl (by dsimp only; omega)) (Keeps.setCell' (.inl (by dsimp only; omega)) k0)
end

section
set_option linter.unusedVariables false
set_option linter.unusedSimpArgs false
set_option linter.unusedSectionVars false
open Go.RowKit

theorem key_beq {a b : List Int} (ha : KeyWf a) (hb : KeyWf b) : ((strOfNums a).toList == (strOfNums b).toList) = decide (a = b) := by
  by_cases h : a = b
  · subst h; simp
  · rw [decide_eq_false h, beq_eq_false_iff_ne]
    intro e
    rw [ByteArray.toList_eq, ByteArray.toList_eq] at e
    exact h (strOf_inj ha.2 hb.2 (ByteArray.ext (Array.toList_inj.1 e)))

set_option maxRecDepth 100000 in
set_option maxHeartbeats 1000000 in
theorem rmay_any {b : Bool} (v : Value) (l : List (List Int)) (w : World) (hv : RdL .u8 w v l) (hl : l.length ≤ 1000000000) (hb : mayL l ↔ b = true) :
    Calls Tryz.prog 35 #[v] w fun e w' => e = .returned (.bool b) ∧ w = w' := by
  obtain ⟨A0, n0, cp0, rfl, hn0, -⟩ := hv.form
  have HV := Lib.hid hv
  have HN := Lib.hid hn0
  have HB := Lib.hid hb
  have hn1 : n0 ≤ 1000000000 := by omega
  clear hv hn0 hl hb
  by_cases h1 : 1024 < n0
  · have h1' : (1024 : Int) < (n0 : Int) := by omega
    obtain rfl : b = false := by
      cases b
      · rfl
      · have := (HB.out.2 rfl).1; have := HN.out; omega
    go_enter Tryz.func35, Tryz.ntmps35
    go_wp2_with fail
    go_ret
    exact ⟨rfl, rfl⟩
  · have h1' : decide ((1024 : Int) < (n0 : Int)) = false := decide_eq_false (by omega)
    go_enter Tryz.func35, Tryz.ntmps35
    go_wp2_with fail
    go_loop [3] (fun s3 => ∃ i : Nat, i ≤ n0 ∧ s3 = .int .i64 i ∧ Hid (∀ b ∈ l.take i, b.length ≤ 131072)) (fun s3 => n0 - (intOf s3).toNat)
    case atStart => exact ⟨0, Nat.zero_le _, rfl, fun b hb => by simp at hb⟩
    case round =>
      obtain ⟨i, hi, rfl, HA⟩ := hrel
      by_cases hlt : i < n0
      · obtain ⟨q, hq⟩ : ∃ b, l[i]? = some b := ⟨_, List.getElem?_eq_getElem (by have := HN.out; omega)⟩
        obtain ⟨bb, oo, vi, rfl, hbb, hcc, hri, hcap⟩ := HV.out.at hq
        have hii : (i : Int) < (n0 : Int) := by omega
        obtain ⟨a2, n2, c2, rfl, hn2, -⟩ := hri.form
        have hqm := List.mem_of_getElem? hq
        by_cases hbig : 131072 < n2
        · have hbig' : (131072 : Int) < (n2 : Int) := by omega
          obtain rfl : b = false := by
            cases b
            · rfl
            · have := (HB.out.2 rfl).2 q hqm; omega
          clear hq hqm hri hn2
          go_wp2_with fail
          go_ret
          exact ⟨rfl, rfl⟩
        · have hbig' : decide ((131072 : Int) < (n2 : Int)) = false := decide_eq_false (by omega)
          have HA2 : Hid (∀ b ∈ l.take (i + 1), b.length ≤ 131072) := fun x hx => by
            rw [List.take_add_one, hq] at hx
            rcases List.mem_append.1 hx with hx | hx
            · exact HA.out x hx
            · simp at hx; subst hx; omega
          clear hq hqm hri hn2
          go_wp2_with fail
          go_round
          case rel => exact ⟨i + 1, by omega, by go_num, HA2⟩
          case measure => simp [intOf]; omega
      · have hii : decide ((i : Int) < (n0 : Int)) = false := decide_eq_false (by omega)
        obtain rfl : b = true := HB.out.1 ⟨by have := HN.out; omega, fun b hb => HA.out b (by rw [List.take_of_length_le (by have := HN.out; omega)]; exact hb)⟩
        go_wp2_with fail
        go_ret
        exact ⟨rfl, rfl⟩

set_option maxRecDepth 100000 in
set_option maxHeartbeats 1000000 in
theorem rhas_any {b : Bool} (v : Value) (ks : List (List Int)) (k : List Int) (w : World) (hv : RdS w v ks) (hks : ∀ x ∈ ks, KeyWf x) (hk : KeyWf k) (hl : ks.length ≤ 1000000000) (hb : k ∈ ks ↔ b = true) :
    Calls Tryz.prog 38 #[v, keyS k] w fun e w' => e = .returned (.bool b) ∧ w = w' := by
  obtain ⟨A0, n0, cp0, rfl, hn0, hcap, -⟩ := RdW.form hv
  have HV := Lib.hid hv
  have HN := Lib.hid hn0
  have HB := Lib.hid hb
  have HK := Lib.hid hks
  have hn1 : n0 ≤ 1000000000 := by omega
  clear hv hn0 hl hb hks
  go_enter Tryz.func38, Tryz.ntmps38
  go_wp2_with fail
  go_loop [5] (fun s5 => ∃ i : Nat, i ≤ n0 ∧ s5 = .int .i64 i ∧ Hid (k ∉ ks.take i)) (fun s5 => n0 - (intOf s5).toNat)
  case atStart => exact ⟨0, Nat.zero_le _, rfl, fun hb => by simp at hb⟩
  case round =>
    obtain ⟨i, hi, rfl, HA⟩ := hrel
    by_cases hlt : i < n0
    · obtain ⟨q, hq⟩ : ∃ b, ks[i]? = some b := ⟨_, List.getElem?_eq_getElem (by have := HN.out; omega)⟩
      obtain ⟨bb, oo, rfl, hbb, hcc⟩ := RdS.at HV.out hq
      have hii : (i : Int) < (n0 : Int) := by omega
      have hqm := List.mem_of_getElem? hq
      have heq := key_beq (HK.out q hqm) hk
      by_cases he : q = k
      · rw [decide_eq_true he] at heq
        obtain rfl : b = true := HB.out.1 (he ▸ hqm)
        clear hq hqm
        go_wp2_with fail
        go_ret
        exact ⟨rfl, rfl⟩
      · rw [decide_eq_false he] at heq
        have HA2 : Hid (k ∉ ks.take (i + 1)) := fun hx => by
          rw [List.take_add_one, hq] at hx
          rcases List.mem_append.1 hx with hx | hx
          · exact HA.out hx
          · simp at hx; exact he hx.symm
        clear hq hqm
        go_wp2_with fail
        go_round
        case rel => exact ⟨i + 1, by omega, by go_num, HA2⟩
        case measure => simp [intOf]; omega
    · have hii : decide ((i : Int) < (n0 : Int)) = false := decide_eq_false (by omega)
      obtain rfl : b = false := by
        cases b
        · rfl
        · have := HB.out.2 rfl
          exact absurd this (by have h := HA.out; rwa [List.take_of_length_le (by have := HN.out; omega)] at h)
      go_wp2_with fail
      go_ret
      exact ⟨rfl, rfl⟩
end

section
set_option linter.unusedVariables false
set_option linter.unusedSimpArgs false
set_option linter.unusedSectionVars false
open Go.RowKit

set_option maxRecDepth 100000 in
set_option maxHeartbeats 2000000 in
theorem rkeys_any (v : Value) (b : List Int) (w : World) (hv : RdI .u8 w v b) (hb : ∀ x ∈ b, 0 ≤ x ∧ x ≤ 255) (hl : b.length ≤ 1000000) :
    Calls Tryz.prog 36 #[v] w fun e w' => ∃ v', e = .returned v' ∧ OwnS w' w.heap.size v' (keysL b) ∧ Keeps w w' [] := by
  obtain ⟨j0, hj0, yz0, yz1, yz2⟩ := info_parts Tryz.infoStr
  obtain ⟨i0, hi0, hz0, hz1, hz2⟩ := info_parts Tryz.infoByte
  obtain ⟨A0, n, cp, rfl, hn, -⟩ := hv.form
  have HV := Lib.hid hv
  have HN := Lib.hid hn
  have HB := Lib.hid (fun i (h : i + 6 ≤ b.length) => win_wf hb (k := (b.drop i).take 6) (mem_wins.2 ⟨i, h, rfl⟩))
  have HD : Hid (∀ (i : Nat) (x : List Int), x ∈ dedL ((wins b).take i) → KeyWf x) := fun i x hx => win_wf hb (List.mem_of_mem_take (mem_ded.1 hx))
  have hn1 : n ≤ 1000000 := by omega
  have hcap := hv.cap
  clear hv hn hb hl
  go_enter Tryz.func36, Tryz.ntmps36
  go_wp2_with fail
  go_loopw [3, 4] (fun s3 s4 wr => ∃ (i : Nat) (a : Option Addr) (c : Nat), i ≤ n ∧ s4 = .int .i64 i ∧ s3 = .slice a (dedL ((wins b).take i)).length c ∧ OwnS wr w.heap.size s3 (dedL ((wins b).take i)) ∧ Keeps w wr []) (fun _ s4 _ => n - (intOf s4).toNat)
  case atStart => exact ⟨0, none, 0, Nat.zero_le _, rfl, rfl, OwnS.nil _ _, Keeps.refl _ _⟩
  case round =>
    obtain ⟨i, a, c, hi, rfl, rfl, ow, kk⟩ := hrel
    by_cases hlt : i + 6 ≤ n
    · have hii : (i : Int) + 6 ≤ (n : Int) := by omega
      obtain ⟨bb, oo, rfl, hbb, -⟩ := HV.out.addr (by omega)
      obtain ⟨q, hq⟩ : ∃ q, q = (b.drop i).take 6 := ⟨_, rfl⟩
      have hn6 : i + 6 ≤ b.length := by have := HN.out; omega
      have hwf : KeyWf q := by rw [hq]; exact HB.out i hn6
      have hsl := run_slice2 (P := Tryz.prog) Tryz.underlying33 hi0 hz1 (b := bb) (o := oo) (n := n) (c := cp) (i := i) (j := i + 6) (x := (i : Int)) (y := (i : Int) + 6) rfl (by omega) (by omega) (by omega) (by omega) wr
      rw [show i + 6 - i = 6 by omega] at hsl
      have hcv : (convert 33 9 (.slice (some ⟨bb, oo + i, none⟩) 6 (cp - i))).run Tryz.prog wr = .ok (keyS q) wr := by
        rw [hq]
        exact str_of ((HV.out.keeps kk).piece (p := i) (q := 6) (by omega) (cp - i) (by omega)) Tryz.underlying33 Tryz.underlying5 Tryz.underlying9
      have hstep : (wins b).take (i + 1) = (wins b).take i ++ [q] := by rw [hq]; exact wins_take hn6
      have hdl := ded_len ((wins b).take i)
      have htl : ((wins b).take i).length ≤ i := List.length_take_le _ _
      have hlL : (dedL ((wins b).take i)).length ≤ 1000000 := by omega
      have HO := Lib.hid ow
      have HL := Lib.hid ow.reads
      by_cases hin : q ∈ (wins b).take i
      · have HHA := Lib.hid (rhas_any (b := true) _ _ q wr HL.out (HD.out i) hwf (by omega) (by rw [mem_ded]; simp [hin]))
        have hded := ded_old hin
        rw [← hstep] at hded
        have HDE := Lib.hid hded
        clear hded hin hstep ow hq hn6
        go_wp2_with (go_at_call 38; refine HHA.out.mono ?_; rintro e w' ⟨rfl, rfl⟩)
        go_roundw
        case rel => exact ⟨i + 1, a, c, by omega, by go_num, by rw [HDE.out], by rw [HDE.out]; exact HO.out, kk⟩
        case measure => simp [intOf]; omega
      · have HHA := Lib.hid (rhas_any (b := false) _ _ q wr HL.out (HD.out i) hwf (by omega) (by rw [mem_ded]; simp [hin]))
        have hded := ded_new hin
        rw [← hstep] at hded
        have HDE := Lib.hid hded
        clear hded hin hstep ow hq hn6
        generalize (dedL ((wins b).take i)) = L at *
        obtain ⟨M, hM⟩ : ∃ M, M = L.length := ⟨_, rfl⟩
        rw [← hM] at hdl hlL HHA ⊢
        have HO3 : Hid (OwnS wr w.heap.size (.slice a M c) L) := by rw [hM]; exact HO.out
        have HMM := Lib.hid hM
        have hks := kk.size
        clear hM HO HL
        go_wp2_with (first | (go_at_call 38; refine HHA.out.mono ?_; rintro e w' ⟨rfl, rfl⟩) | (at_builtin; go_loud (refine wpList_app1V rfl _ _ 25 rfl w.heap.size 9 j0 (.string .empty) 16 Tryz.underlying25 hj0 yz0 yz1 yz2 rfl (.slice a M c) M (cellsW rowS L) (keyS q) rfl wr.heap.size rfl rfl rfl (by have h := HO3.out; unfold OwnS at h; rw [← HMM.out] at h; exact h) (by unfold maxLen; omega) (by omega) (by omega) ?_; intro a3 c3 w3 own3 k3)))
        go_roundw
        case rel =>
          refine ⟨i + 1, a3, c3, by omega, by go_num, by rw [HDE.out, HMM.out]; simp, ?_, ?_⟩
          · rw [HDE.out]
            unfold OwnS
            rw [List.length_append, ← HMM.out, cellsW_append rowS_len]
            exact own3
          · exact keeps_row kk k3 (fun g hg => by have := (World.ownsRow.lt HO3.out g hg).1; omega)
        case measure => simp [intOf]; omega
    · have hii : decide ((i : Int) + 6 ≤ (n : Int)) = false := decide_eq_false (by omega)
      have hall : (wins b).take i = wins b := List.take_of_length_le (by rw [wins_len]; have := HN.out; omega)
      rw [hall] at ow ⊢
      go_wp2_with fail
      go_ret
      exact ⟨_, rfl, ow, kk⟩

/-- Whether a key lies in a sample. -/
theorem cnt_take {l : List (List Int)} {b k : List Int} {i : Nat} (h : l[i]? = some b) : cntL (l.take (i + 1)) k = cntL (l.take i) k + if k ∈ wins b then 1 else 0 := by
  rw [List.take_add_one, h]; exact cnt_snoc _ _ _

set_option maxRecDepth 100000 in
set_option maxHeartbeats 2000000 in
theorem rknown_any (v : Value) (l : List (List Int)) (k : List Int) (w : World) (hv : RdL .u8 w v l) (hb : ∀ b ∈ l, ∀ x ∈ b, 0 ≤ x ∧ x ≤ 255) (hl : l.length ≤ 1024) (hbl : ∀ b ∈ l, b.length ≤ 131072) (hk : KeyWf k) :
    Calls Tryz.prog 37 #[v, keyS k] w fun e w' => e = .returned (.int .i64 (cntL l k : Nat)) ∧ w' = w := by
  obtain ⟨i0, hi0, hz0, hz1, hz2⟩ := info_parts Tryz.infoByte
  obtain ⟨A0, n0, cp0, rfl, hn0, -⟩ := hv.form
  have HV := Lib.hid hv
  have HN := Lib.hid hn0
  have HBL := Lib.hid hbl
  have HB := Lib.hid hb
  have hn1 : n0 ≤ 1024 := by omega
  clear hv hn0 hl hb hbl
  go_enter Tryz.func37, Tryz.ntmps37
  go_wp2_with fail
  go_loop [5, 6] (fun s5 s6 => ∃ i : Nat, i ≤ n0 ∧ s6 = .int .i64 i ∧ s5 = .int .i64 (cntL (l.take i) k : Nat)) (fun _ s6 => n0 - (intOf s6).toNat)
  case atStart => exact ⟨0, Nat.zero_le _, rfl, rfl⟩
  case round =>
    obtain ⟨i, hi, rfl, rfl⟩ := hrel
    by_cases hlt : i < n0
    · obtain ⟨q, hq⟩ : ∃ b, l[i]? = some b := ⟨_, List.getElem?_eq_getElem (by have := HN.out; omega)⟩
      obtain ⟨bb, oo, vi, rfl, hbb, hcc, hri, hcap⟩ := HV.out.at hq
      have hii : (i : Int) < (n0 : Int) := by omega
      obtain ⟨a2, n2, c2, rfl, hn2, -⟩ := hri.form
      have hqm := List.mem_of_getElem? hq
      have hql := HBL.out q hqm
      have HQB := Lib.hid (HB.out q hqm)
      have HR := Lib.hid hri
      have HN2 := Lib.hid hn2
      have hct := cnt_take (k := k) hq
      have HCT := Lib.hid hct
      have hcb : cntL (l.take i) k ≤ 1024 := by have := cnt_le (l.take i) k; have := List.length_take_le i l; omega
      have hn2b : n2 ≤ 131072 := by omega
      obtain ⟨C, hC⟩ : ∃ C, C = cntL (l.take i) k := ⟨_, rfl⟩
      rw [← hC] at HCT hcb ⊢
      clear hq hqm hri hn2 hct hC hql
      go_wp2_with fail
      go_loop [5, 7] (fun s5 s7 => ∃ at' : Nat, at' ≤ n2 ∧ s7 = .int .i64 at' ∧ s5 = .int .i64 C ∧ Hid (k ∉ (wins q).take at')) (fun _ s7 => n2 - (intOf s7).toNat)
      case atStart => exact ⟨0, Nat.zero_le _, rfl, rfl, fun hb => by simp at hb⟩
      case round =>
        obtain ⟨t, ht, rfl, rfl, HA⟩ := hrel
        by_cases hlt6 : t + 6 ≤ n2
        · have htt : (t : Int) + 6 ≤ (n2 : Int) := by omega
          obtain ⟨b3, o3, rfl, hb3, -⟩ := HR.out.addr (by omega)
          obtain ⟨y, hy⟩ : ∃ y, y = (q.drop t).take 6 := ⟨_, rfl⟩
          have hn6 : t + 6 ≤ q.length := by have := HN2.out; omega
          have hwf : KeyWf y := by rw [hy]; exact win_wf HQB.out (mem_wins.2 ⟨t, hn6, rfl⟩)
          have hcap2 := HR.out.cap
          have hsl := run_slice2 (P := Tryz.prog) Tryz.underlying33 hi0 hz1 (b := b3) (o := o3) (n := n2) (c := c2) (i := t) (j := t + 6) (x := (t : Int)) (y := (t : Int) + 6) rfl (by omega) (by omega) (by omega) (by omega) w
          rw [show t + 6 - t = 6 by omega] at hsl
          have hcv : (convert 33 9 (.slice (some ⟨b3, o3 + t, none⟩) 6 (c2 - t))).run Tryz.prog w = .ok (keyS y) w := by
            rw [hy]
            exact str_of (HR.out.piece (p := t) (q := 6) (by omega) (c2 - t) (by omega)) Tryz.underlying33 Tryz.underlying5 Tryz.underlying9
          have hstep : (wins q).take (t + 1) = (wins q).take t ++ [y] := by rw [hy]; exact wins_take hn6
          have heq := key_beq hwf hk
          by_cases he : y = k
          · rw [decide_eq_true he] at heq
            have hmem : k ∈ wins q := by
              have h1 : k ∈ (wins q).take (t + 1) := by rw [hstep, he]; simp
              exact List.mem_of_mem_take h1
            have HCT2 : Hid (cntL (l.take (i + 1)) k = C + 1) := by show _ = _; rw [HCT.out, if_pos hmem]
            clear hy hn6 hstep hmem he
            go_wp2_with fail
            go_round
            case rel => exact ⟨i + 1, by omega, by go_num, by rw [HCT2.out]; go_num⟩
            case measure => simp [intOf]; omega
          · rw [decide_eq_false he] at heq
            have HA2 : Hid (k ∉ (wins q).take (t + 1)) := fun hx => by
              rw [hstep] at hx
              rcases List.mem_append.1 hx with hx | hx
              · exact HA.out hx
              · simp at hx; exact he hx.symm
            clear hy hn6 hstep he
            go_wp2_with fail
            go_round
            case rel => exact ⟨t + 1, by omega, by go_num, rfl, HA2⟩
            case measure => simp [intOf]; omega
        · have htt : decide ((t : Int) + 6 ≤ (n2 : Int)) = false := decide_eq_false (by omega)
          have hno : k ∉ wins q := by
            have h := HA.out
            rwa [List.take_of_length_le (by rw [wins_len]; have := HN2.out; omega)] at h
          have HCT2 : Hid (cntL (l.take (i + 1)) k = C) := by show _ = _; rw [HCT.out, if_neg hno]; rfl
          clear hno
          go_wp2_with fail
          go_round
          case rel => exact ⟨i + 1, by omega, by go_num, by rw [HCT2.out]⟩
          case measure => simp [intOf]; omega
    · have hii : decide ((i : Int) < (n0 : Int)) = false := decide_eq_false (by omega)
      have hall : l.take i = l := List.take_of_length_le (by have := HN.out; omega)
      rw [hall]
      go_wp2_with fail
      go_ret
      exact ⟨rfl, rfl⟩
end

section
set_option linter.unusedVariables false
set_option linter.unusedSimpArgs false
set_option linter.unusedSectionVars false
open Go.RowKit

set_option maxRecDepth 100000 in
set_option maxHeartbeats 2000000 in
theorem rworth_any (vb v vs : Value) (b : List Int) (l but : List (List Int)) (w : World) (hvb : RdI .u8 w vb b) (hbb : ∀ x ∈ b, 0 ≤ x ∧ x ≤ 255) (hbl0 : b.length ≤ 1000000) (hv : RdL .u8 w v l) (hb : ∀ b ∈ l, ∀ x ∈ b, 0 ≤ x ∧ x ≤ 255) (hl : l.length ≤ 1024) (hbl : ∀ b ∈ l, b.length ≤ 131072)
    (hs : RdS w vs but) (hbut : ∀ x ∈ but, KeyWf x) (hsl : but.length ≤ 1000000000) :
    Calls Tryz.prog 46 #[vb, v, vs] w fun e w' => e = .returned (.int .i64 (wkL (cntL l) but b : Nat)) ∧ Keeps w w' [] := by
  have HK := Lib.hid (rkeys_any vb b w hvb hbb hbl0)
  have HW := Lib.hid (fun k (h : k ∈ keysL b) => keys_wf hbb h)
  have hkl := keys_len b
  obtain ⟨A0, n0, cp0, rfl, -⟩ := hvb.form
  obtain ⟨A1, n1, cp1, rfl, -⟩ := hv.form
  obtain ⟨A2, n2, cp2, rfl, -⟩ := RdW.form hs
  have HV := Lib.hid hv
  have HKN := Lib.hid (fun (wx : World) (kx : Keeps w wx []) (k : List Int) (hk : KeyWf k) => rknown_any _ l k wx (hv.keeps kx) hb hl hbl hk)
  have HHA := Lib.hid (fun (wx : World) (kx : Keeps w wx []) (r : Bool) (k : List Int) (hk : KeyWf k) (hr : k ∈ but ↔ r = true) => rhas_any _ but k wx (RdW.keep hs kx) hbut hk hsl hr)
  have HC : Hid (∀ q, cntL l q ≤ 1024) := fun q => by have := cnt_le l q; omega
  have HE : Hid (wkL (cntL l) but b = sumK (cntL l) but (keysL b)) := rfl
  clear hvb hbb hv hb hl hbl hs hbut
  go_enter Tryz.func46, Tryz.ntmps46
  go_wp2_with fail
  refine HK.out.mono ?_
  rintro e w1 ⟨v1, rfl, own1, k1⟩
  have HS := Lib.hid own1.reads
  obtain ⟨a1, c1, rfl⟩ := own_form own1
  clear own1 HK
  generalize keysL b = ks at *
  have hks : ks.length ≤ 1000000 := by omega
  go_wp2_with fail
  go_loopw [7, 9] (fun s7 s9 wr => ∃ j : Nat, j ≤ ks.length ∧ s9 = .int .i64 j ∧ s7 = .int .i64 (sumK (cntL l) but (ks.take j) : Nat) ∧ wr = w1) (fun _ s9 _ => ks.length - (intOf s9).toNat)
  case atStart => exact ⟨0, Nat.zero_le _, rfl, rfl, rfl⟩
  case round =>
    obtain ⟨j, hj, rfl, rfl, rfl⟩ := hrel
    by_cases hlt : j < ks.length
    · obtain ⟨k, hk⟩ : ∃ k, ks[j]? = some k := ⟨_, List.getElem?_eq_getElem hlt⟩
      obtain ⟨bb, oo, rfl, hbb, hcc⟩ := HS.out.at hk
      have hjj : (j : Int) < (ks.length : Int) := by omega
      have hcap := RdW.cap HS.out
      have hwf := HW.out k (List.mem_of_getElem? hk)
      have hs : Hid (sumK (cntL l) but (ks.take (j + 1)) = sumK (cntL l) but (ks.take j) + oneW (cntL l) but k) := by show _ = _; rw [List.take_add_one, hk]; exact sumK_snoc _ _ _ _
      have hbd := sumK_le (c := cntL l) (but := but) HC.out (ks.take j)
      have htl : (ks.take j).length ≤ 1000000 := by have := List.length_take_le j ks; omega
      have hbd2 : sumK (cntL l) but (ks.take j) ≤ 1024000000 := by omega
      have hone : Hid (oneW (cntL l) but k = if 1 < cntL l k ∧ k ∉ but then cntL l k - 1 else 0) := wk_of_cnt
      have HKN1 := Lib.hid (HKN.out wr k1 k hwf)
      have hXc := HC.out k
      obtain ⟨X, hX⟩ : ∃ X : Nat, X = cntL l k := ⟨_, rfl⟩
      rw [← hX] at HKN1 hone hXc
      generalize hSS : sumK (cntL l) but (ks.take j) = SS at *
      clear hX hbd hk hSS htl
      by_cases h1 : 1 < X
      · have h1' : (1 : Int) < (X : Int) := by omega
        by_cases hin : k ∈ but
        · have hone' : Hid (oneW (cntL l) but k = 0) := by show _ = _; rw [hone.out, if_neg (fun h => h.2 hin)]
          have HHA1 := Lib.hid (HHA.out wr k1 true k hwf (by simp [hin]))
          clear hone hin
          go_wp2_with (first | (go_at_call 37; refine HKN1.out.mono ?_; rintro e w2 ⟨rfl, rfl⟩) | (go_at_call 38; refine HHA1.out.mono ?_; rintro e w3 ⟨rfl, rfl⟩))
          go_roundw
          case rel => exact ⟨j + 1, by omega, by go_num, by rw [hs.out, hone'.out]; rfl, by first | rfl | trivial⟩
          case measure => simp [intOf]; omega
        · have hone' : Hid (oneW (cntL l) but k = X - 1) := by show _ = _; rw [hone.out, if_pos ⟨h1, hin⟩]
          have HHA1 := Lib.hid (HHA.out wr k1 false k hwf (by simp [hin]))
          clear hone hin
          go_wp2_with (first | (go_at_call 37; refine HKN1.out.mono ?_; rintro e w2 ⟨rfl, rfl⟩) | (go_at_call 38; refine HHA1.out.mono ?_; rintro e w3 ⟨rfl, rfl⟩))
          go_roundw
          case rel => exact ⟨j + 1, by omega, by go_num, by rw [hs.out, hone'.out]; congr 1; omega, by first | rfl | trivial⟩
          case measure => simp [intOf]; omega
      · have h1' : decide ((1 : Int) < (X : Int)) = false := decide_eq_false (by omega)
        have hone' : Hid (oneW (cntL l) but k = 0) := by show _ = _; rw [hone.out, if_neg (fun h => h1 h.1)]
        clear hone
        go_wp2_with (first | (go_at_call 37; refine HKN1.out.mono ?_; rintro e w2 ⟨rfl, rfl⟩))
        go_roundw
        case rel => exact ⟨j + 1, by omega, by go_num, by rw [hs.out, hone'.out]; rfl, by first | rfl | trivial⟩
        case measure => simp [intOf]; omega
    · have hjj : decide ((j : Int) < (ks.length : Int)) = false := decide_eq_false (by omega)
      have hall : ks.take j = ks := List.take_of_length_le (by omega)
      rw [hall]
      clear hall
      go_wp2_with fail
      go_ret
      exact ⟨by rw [HE.out]; rfl, k1⟩

def scoreR (b : List Int) (l : List (List Int)) : Nat := if mayL l then wkL (cntL l) [] b else 0

set_option maxRecDepth 100000 in
set_option maxHeartbeats 1000000 in
theorem rWorth_any (vb v : Value) (b : List Int) (l : List (List Int)) (w : World) (hvb : RdI .u8 w vb b) (hbb : ∀ x ∈ b, 0 ≤ x ∧ x ≤ 255) (hbl0 : b.length ≤ 1000000) (hv : RdL .u8 w v l) (hb : ∀ b ∈ l, ∀ x ∈ b, 0 ≤ x ∧ x ≤ 255) (hll : l.length ≤ 1000000000) :
    Calls Tryz.prog 15 #[vb, v] w fun e w' => e = .returned (.tuple #[.int .i64 (scoreR b l), .int .i64 (if mayL l then 0 else 2)]) ∧ Keeps w w' [] := by
  have HM : ∀ r : Bool, (mayL l ↔ r = true) → Hid (Calls Tryz.prog 35 #[v] w fun e w' => e = .returned (.bool r) ∧ w = w') := fun r h => rmay_any v l w hv hll h
  by_cases hm : mayL l
  · have HM1 := HM true (by simp [hm])
    have HW := Lib.hid (rworth_any vb v (.slice none 0 0) b l [] w hvb hbb hbl0 hv hb hm.1 hm.2 RdW.nil (by simp) (by simp))
    have hs : scoreR b l = wkL (cntL l) [] b := by unfold scoreR; rw [if_pos hm]
    rw [← hs] at HW
    simp only [hm, if_true]
    obtain ⟨A0, n0, cp0, rfl, -⟩ := hvb.form
    obtain ⟨A1, n1, cp1, rfl, -⟩ := hv.form
    generalize scoreR b l = SC at *
    clear HM hm hvb hv hbb hb hs
    go_enter Tryz.func15, Tryz.ntmps15
    go_wp2_with (first | (go_at_call 35; refine HM1.out.mono ?_; rintro e w2 ⟨rfl, rfl⟩) | (go_at_call 46; refine HW.out.mono ?_; rintro e w3 ⟨rfl, k3⟩))
    go_ret2
    exact ⟨rfl, k3⟩
  · have HM1 := HM false (by simp [hm])
    have hs : scoreR b l = 0 := by unfold scoreR; rw [if_neg hm]
    rw [hs]
    simp only [hm, if_false]
    obtain ⟨A0, n0, cp0, rfl, -⟩ := hvb.form
    obtain ⟨A1, n1, cp1, rfl, -⟩ := hv.form
    clear HM hm hvb hv hbb hb hs
    go_enter Tryz.func15, Tryz.ntmps15
    go_wp2_with (first | (go_at_call 35; refine HM1.out.mono ?_; rintro e w2 ⟨rfl, rfl⟩))
    go_ret2
    exact ⟨rfl, Keeps.refl _ _⟩
end

end Go.Proofs.YtogengangfohfaaGreat
