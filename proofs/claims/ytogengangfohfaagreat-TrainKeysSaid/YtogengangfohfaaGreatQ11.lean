/-
  The law's helpers of training: num, few, texts.
  The chapter's examples, in plain numbers. No program is in sight here.
  Walks over package train: keys.
-/
import Derived.Test.YtogengangfohfaaGreatQ3
import Derived.Test.YtogengangfohfaaGreatQ10
import Derived.Test.YtogengangfohfaaGreatQ9
import Derived.Lib.ConvBytes
import Derived.Test.YtogengangfohfaaGreatQ7
import Derived.Test.YtogengangfohfaaGreatQ1
namespace Go.Proofs.YtogengangfohfaaGreat
section
set_option linter.unusedVariables false
set_option linter.unusedSimpArgs false
set_option linter.unusedSectionVars false
open Go.RowKit

theorem num_any (n : Int) (w : World) : Calls Tryz.prog 16 #[.int .i64 n] w fun e w' => e = .returned (.int .i64 n) ∧ w = w' := by
  go_enter Tryz.func16, Tryz.ntmps16
  go_wp2
  go_ret
  exact ⟨rfl, rfl⟩

def fewL (l : List (List Int)) : Prop := l.length ≤ 6 ∧ ∀ b ∈ l, b.length ≤ 120
instance (l : List (List Int)) : Decidable (fewL l) := by unfold fewL; exact inferInstance

set_option maxRecDepth 100000 in
set_option maxHeartbeats 1000000 in
theorem few_any {b : Bool} (v : Value) (l : List (List Int)) (w : World) (hv : RdL .u8 w v l) (hb : fewL l ↔ b = true) :
    Calls Tryz.prog 10 #[v] w fun e w' => e = .returned (.bool b) ∧ w = w' := by
  obtain ⟨A0, n0, cp0, rfl, hn0, -⟩ := hv.form
  have HV := Lib.hid hv
  have HN := Lib.hid hn0
  have HB := Lib.hid hb
  clear hv hn0 hb
  by_cases h1 : 6 < n0
  · have h1' : (6 : Int) < (n0 : Int) := by omega
    obtain rfl : b = false := by
      cases b
      · rfl
      · have := (HB.out.2 rfl).1; have := HN.out; omega
    go_enter Tryz.func10, Tryz.ntmps10
    go_wp2_with fail
    go_ret
    exact ⟨rfl, rfl⟩
  · have h1' : decide ((6 : Int) < (n0 : Int)) = false := decide_eq_false (by omega)
    go_enter Tryz.func10, Tryz.ntmps10
    go_wp2_with fail
    go_loop [3] (fun s3 => ∃ i : Nat, i ≤ n0 ∧ s3 = .int .i64 i ∧ Hid (∀ b ∈ l.take i, b.length ≤ 120)) (fun s3 => n0 - (intOf s3).toNat)
    case atStart => exact ⟨0, Nat.zero_le _, rfl, fun b hb => by simp at hb⟩
    case round =>
      obtain ⟨i, hi, rfl, HA⟩ := hrel
      by_cases hlt : i < n0
      · obtain ⟨q, hq⟩ : ∃ b, l[i]? = some b := ⟨_, List.getElem?_eq_getElem (by have := HN.out; omega)⟩
        obtain ⟨bb, oo, vi, rfl, hbb, hcc, hri, hcap⟩ := HV.out.at hq
        have hii : (i : Int) < (n0 : Int) := by omega
        obtain ⟨a2, n2, c2, rfl, hn2, -⟩ := hri.form
        have hqm := List.mem_of_getElem? hq
        by_cases hbig : 120 < n2
        · have hbig' : (120 : Int) < (n2 : Int) := by omega
          obtain rfl : b = false := by
            cases b
            · rfl
            · have := (HB.out.2 rfl).2 q hqm; omega
          clear hq hqm hri hn2
          go_wp2_with fail
          go_ret
          exact ⟨rfl, rfl⟩
        · have hbig' : decide ((120 : Int) < (n2 : Int)) = false := decide_eq_false (by omega)
          have HA2 : Hid (∀ b ∈ l.take (i + 1), b.length ≤ 120) := fun x hx => by
            rw [List.take_add_one, hq] at hx
            rcases List.mem_append.1 hx with hx | hx
            · exact HA.out x hx
            · simp at hx; subst hx; omega
          clear hq hqm hri hn2
          go_wp2_with fail
          go_round
          case rel => exact ⟨i + 1, by omega, by go_num, HA2⟩
          case measure => simp [intOf]; omega
      · have hii : decide ((i : Int) < (n0 : Int)) = false := decide_eq_false (by omega)
        obtain rfl : b = true := HB.out.1 ⟨by have := HN.out; omega, fun b hb => HA.out b (by rw [List.take_of_length_le (by have := HN.out; omega)]; exact hb)⟩
        go_wp2_with fail
        go_ret
        exact ⟨rfl, rfl⟩

/-- Bytes out of a string: they lie in a new block. -/
theorem bytes_str {P : Program} (w : World) (src dst e : TypeId) (k : List Int) (hk : ∀ x ∈ k, 0 ≤ x ∧ x ≤ 255) (hs : P.underlying src = some .string) (hd : P.underlying dst = some (.slice e)) (he : P.underlying e = some (.int .u8)) :
    ∃ cap w', (convert src dst (.string (strOfNums k))).run P w = .ok (.slice (some ⟨w.heap.size, 0, none⟩) k.length cap) w' ∧ RdI .u8 w' (.slice (some ⟨w.heap.size, 0, none⟩) k.length cap) k ∧ Keeps w w' [] ∧ w.heap.size < w'.heap.size ∧ (∃ cs fr, w'.heap[w.heap.size]? = some (.cells cs e fr)) := by
  have hr := Go.Lib.run_convert_string_bytes (P := P) w src dst e (strOfNums k) hs hd he
  rw [strOfNums_size] at hr
  have hnew := Go.Lib.bytesWorld_at_new w e (strOfNums k)
  have hlt := (Array.getElem?_eq_some_iff.1 hnew).1
  refine ⟨_, _, hr, ⟨_, _, _, rfl, rfl, (fun h => by cases h), fun h0 => ⟨?_, _, _, rfl, hlt, fun i x hx => ?_⟩⟩, ?_, hlt, _, _, hnew⟩
  · have := grownCap_ge w (strOfNums k).size 0 e
    rw [strOfNums_size] at this
    exact this
  · rw [Nat.zero_add, cell_of_row _ _ i _ _ _ hnew]
    have hi := (List.getElem?_eq_some_iff.1 hx).1
    have hb := hk x (List.mem_of_getElem? hx)
    unfold Go.Lib.bytesCells
    rw [Array.getElem?_append_left (by simp [strOfNums]; exact hi)]
    simp [strOfNums, hx]
    omega
  · refine ⟨rfl, rfl, rfl, Nat.le_of_lt hlt, fun j hj _ => Go.Lib.bytesWorld_at_old w e (strOfNums k) j hj⟩

/-- Values that read as byte slices, each in a block of bytes (a string may share it). -/
def PcT (w : World) (vs : List Value) (ls : List (List Int)) : Prop := RdV .u8 w vs ls ∧ ∀ v ∈ vs, ∀ ad n c, v = .slice (some ad) n c → 0 < n → ∃ cs fr, w.heap[ad.block]? = some (.cells cs 5 fr)
theorem PcT.keeps {w w' : World} {vs : List Value} {ls : List (List Int)} {S : List Nat} (h : PcT w vs ls) (k : Keeps w w' S) (hS : ∀ g ∈ S, ∀ cs fr, w.heap[g]? ≠ some (.cells cs 5 fr)) : PcT w' vs ls := by
  refine ⟨⟨h.1.1, fun j l hl => ?_⟩, fun v hv ad n c e h0 => ?_⟩
  · obtain ⟨v, h1, h2⟩ := h.1.2 j l hl
    exact ⟨v, h1, h2.keepsS k (fun ad n c e h0 hm => by
      obtain ⟨cs, fr, hb⟩ := h.2 v (List.mem_of_getElem? h1) ad n c e h0
      exact hS _ hm cs fr hb)⟩
  · obtain ⟨cs, fr, hb⟩ := h.2 v hv ad n c e h0
    exact ⟨cs, fr, (k.block _ (Array.getElem?_eq_some_iff.1 hb).1 (fun hm => hS _ hm cs fr hb)).trans hb⟩
theorem PcT.snoc {w : World} {vs : List Value} {ls : List (List Int)} {v : Value} {l : List Int} (h : PcT w vs ls) (hr : RdI .u8 w v l) (hb : ∀ ad n c, v = .slice (some ad) n c → 0 < n → ∃ cs fr, w.heap[ad.block]? = some (.cells cs 5 fr)) : PcT w (vs ++ [v]) (ls ++ [l]) :=
  ⟨h.1.snoc hr, fun u hu => by
    rcases List.mem_append.1 hu with hu | hu
    · exact h.2 u hu
    · simp at hu; subst hu; exact hb⟩
theorem own_noT {w : World} {base : Nat} {e : TypeId} {size n : Nat} {v : Value} {xs : List Value} (h : w.ownsRow base e size v n xs) (he : e ≠ 5) : ∀ g ∈ ownL v, ∀ cs fr, w.heap[g]? ≠ some (.cells cs 5 fr) := fun g hg cs fr hb => by
  have hg2 := mem_ownL.1 hg
  rcases h.2 with ⟨e1, -⟩ | ⟨g', cp, cur, e1, -, hgb, -⟩
  · rw [e1] at hg2; cases hg2
  · rw [e1] at hg2
    cases hg2
    rw [hgb] at hb
    cases hb
    exact he rfl

set_option maxRecDepth 100000 in
set_option maxHeartbeats 1000000 in
theorem texts_any (v : Value) (ks : List (List Int)) (w : World) (hv : RdS w v ks) (hks : ∀ k ∈ ks, ∀ x ∈ k, 0 ≤ x ∧ x ≤ 255) (hl : ks.length ≤ 1000000) :
    Calls Tryz.prog 34 #[v] w fun e w' => ∃ v', e = .returned v' ∧ RdL .u8 w' v' ks ∧ Keeps w w' [] := by
  obtain ⟨j0, hj0, yz0, yz1, yz2⟩ := info_parts Tryz.infoSl
  obtain ⟨A0, n0, cp0, rfl, hn0, hcap, -⟩ := RdW.form hv
  have HV := Lib.hid hv
  have HN := Lib.hid hn0
  have HK := Lib.hid hks
  have hn1 : n0 ≤ 1000000 := by omega
  clear hv hn0 hl hks
  go_enter Tryz.func34, Tryz.ntmps34
  go_wp2_with fail
  go_loopw [3, 4] (fun s3 s4 wr => ∃ (i : Nat) (a : Option Addr) (c : Nat) (us : List Value), i ≤ n0 ∧ s4 = .int .i64 i ∧ s3 = .slice a i c ∧ wr.ownsRow w.heap.size 33 1 s3 i us ∧ PcT wr us (ks.take i) ∧ Keeps w wr []) (fun _ s4 _ => n0 - (intOf s4).toNat)
  case atStart => exact ⟨0, none, 0, [], Nat.zero_le _, rfl, rfl, World.ownsRow_nil _ _ _ _, ⟨RdV.nil, by simp⟩, Keeps.refl _ _⟩
  case round =>
    obtain ⟨i, a, c, us, hi, rfl, rfl, ow, pc, kk⟩ := hrel
    by_cases hlt : i < n0
    · obtain ⟨k, hk⟩ : ∃ b, ks[i]? = some b := ⟨_, List.getElem?_eq_getElem (by have := HN.out; omega)⟩
      obtain ⟨bb, oo, rfl, hbb, hcc⟩ := RdS.at (RdW.keep HV.out kk) hk
      have hii : (i : Int) < (n0 : Int) := by omega
      obtain ⟨cap, w2, hcv, hr2, k2, hlt2, cs2, fr2, hb2⟩ := bytes_str (P := Tryz.prog) wr 9 33 5 k (HK.out k (List.mem_of_getElem? hk)) Tryz.underlying9 Tryz.underlying33 Tryz.underlying5
      have hst : Hid (ks.take (i + 1) = ks.take i ++ [k]) := by show _ = _; rw [List.take_add_one, hk]; rfl
      have ow2 := own_keeps ow k2
      have pc2 : PcT w2 us (ks.take i) := pc.keeps k2 (fun g hg => by cases hg)
      have hks := kk.size
      have OW2 := Lib.hid ow2
      have PC2 := Lib.hid pc2
      have HR2 := Lib.hid hr2
      have HB2 := Lib.hid hb2
      obtain ⟨N, hN⟩ : ∃ N, N = k.length := ⟨_, rfl⟩
      rw [← hN] at hcv HR2
      clear hk ow pc ow2 pc2 hr2 hb2 hN
      go_wp2_with (at_builtin; go_loud (refine wpList_app1V rfl _ _ 22 rfl w.heap.size 33 j0 (.slice none 0 0) 24 Tryz.underlying22 hj0 yz0 yz1 yz2 rfl (.slice a i c) i us (.slice (some ⟨wr.heap.size, 0, none⟩) N cap) rfl w2.heap.size rfl rfl rfl OW2.out (by unfold maxLen; omega) (by omega) (by omega) ?_; intro a3 c3 w3 own3 k3))
      have k3' : Keeps w2 w3 (ownL (.slice a i c)) := k3
      have nT := own_noT OW2.out (by decide)
      have pc3 : PcT w3 (us ++ [Value.slice (some ⟨wr.heap.size, 0, none⟩) N cap]) (ks.take (i + 1)) := by
        rw [hst.out]
        refine (PC2.out.snoc HR2.out (fun ad n c e h0 => ?_)).keeps k3' nT
        cases e
        exact ⟨_, _, HB2.out⟩
      have kk3 := keeps_row (kk.then k2) k3 (fun g hg => (World.ownsRow.lt OW2.out g hg).1)
      go_roundw
      case rel => exact ⟨i + 1, a3, c3, _, by omega, by go_num, rfl, own3, pc3, kk3⟩
      case measure => simp [intOf]; omega
    · have hii : decide ((i : Int) < (n0 : Int)) = false := decide_eq_false (by omega)
      have hall : ks.take i = ks := List.take_of_length_le (by have := HN.out; omega)
      rw [hall] at pc
      have hul : us.length = i := by have := pc.1.1; have := HN.out; omega
      have hrl : RdL .u8 wr (.slice a i c) ks := by
        have h := ow
        rw [← hul] at h
        rw [← hul]
        exact own_readsL h pc.1
      clear ow pc hall hul
      go_wp2_with fail
      go_ret
      exact ⟨_, rfl, hrl, kk⟩
end

section
set_option linter.unusedVariables false
set_option linter.unusedSimpArgs false

def exA : List Int := [97, 98, 99, 100, 101, 102, 103]
def exB : List Int := [120, 97, 98, 99, 100, 101, 102]
def exC : List Int := [120, 121, 122, 120, 121, 122, 120]
def exK : List Int := [97, 98, 99, 100, 101, 102]
def ex1 : List (List Int) := [exA, exB]
def ex2 : List (List Int) := [exA, exC]
def exZ : List (List Int) := [List.replicate 38 0, List.replicate 5 0]

theorem ex1_may : mayL ex1 := by decide +kernel
theorem ex2_may : mayL ex2 := by decide +kernel
theorem exZ_may : mayL exZ := by decide +kernel
theorem ex1_keys : outK (cntL ex1) (allK ex1) = [exK] := by decide +kernel
theorem ex1_cnt : cntL ex1 exK = 2 := by decide +kernel
theorem ex1_score : wkL (cntL ex1) [] exA = 1 := by decide +kernel
theorem ex1_score2 : wkL (cntL ex1) [] [97, 98, 99] = 0 := by decide +kernel
theorem ex1_pieces : piecesL ex1 = [exA, exB] := by decide +kernel
theorem ex2_pieces : piecesL ex2 = [exA, exC] := by decide +kernel
theorem exZ_pieces : piecesL exZ = [List.replicate 32 0, List.replicate 6 0] := by decide +kernel
theorem ex2_wA : wkL (cntL ex2) [] exA = 0 := by decide +kernel
theorem ex2_wC : wkL (cntL ex2) [] exC = 0 := by decide +kernel
theorem ex1_wB : wkL (cntL ex1) [] exB = 1 := by decide +kernel

theorem two_at {α : Type} {a b p : α} {i : Nat} (h : [a, b][i]? = some p) : (i = 0 ∧ p = a) ∨ (i = 1 ∧ p = b) := by
  match i, h with
  | 0, h => left; simp at h; exact ⟨rfl, h.symm⟩
  | 1, h => right; simp at h; exact ⟨rfl, h.symm⟩
  | i + 2, h => simp at h
theorem ex1_greedy : Greedy (cntL ex1) (piecesL ex1) 8 [] [] exA := by
  rw [ex1_pieces]
  refine .pick 0 exA rfl (by decide) (by rw [ex1_score]; decide) (fun j r h _ => ?_) ?_
  · rcases two_at h with ⟨rfl, rfl⟩ | ⟨rfl, rfl⟩
    · exact .inr ⟨rfl, Nat.le_refl _⟩
    · exact .inr ⟨by rw [ex1_wB, ex1_score], Nat.zero_le _⟩
  · refine .stop (fun i p h hf => ?_)
    rcases two_at h with ⟨rfl, rfl⟩ | ⟨rfl, rfl⟩ <;> exact absurd hf (by decide)
theorem ex2_greedy : Greedy (cntL ex2) (piecesL ex2) 8 [] [] [] := by
  rw [ex2_pieces]
  refine .stop (fun i p h hf => ?_)
  rcases two_at h with ⟨rfl, rfl⟩ | ⟨rfl, rfl⟩
  · exact ex2_wA
  · exact ex2_wC
theorem ex1_one {out : List Int} (h : Greedy (cntL ex1) (piecesL ex1) 8 [] [] out) : out = exA := greedy_one h ex1_greedy
theorem ex2_one {out : List Int} (h : Greedy (cntL ex2) (piecesL ex2) 8 [] [] out) : out = [] := greedy_one h ex2_greedy
theorem ex_bytes : (∀ b ∈ ex1, ∀ x ∈ b, 0 ≤ x ∧ x ≤ 255) ∧ (∀ b ∈ ex2, ∀ x ∈ b, 0 ≤ x ∧ x ≤ 255) ∧ (∀ b ∈ exZ, ∀ x ∈ b, 0 ≤ x ∧ x ≤ 255) := by decide +kernel
end

section
set_option linter.unusedVariables false
set_option linter.unusedSimpArgs false
set_option linter.unusedSectionVars false
open Go.RowKit

set_option maxRecDepth 100000 in
set_option maxHeartbeats 2000000 in
theorem keys_any (v : Value) (b : List Int) (w : World) (hv : RdI .u8 w v b) (hb : ∀ x ∈ b, 0 ≤ x ∧ x ≤ 255) (hl : b.length ≤ 1000000) :
    Calls Tryz.prog 40 #[v] w fun e w' => ∃ v', e = .returned v' ∧ OwnS w' w.heap.size v' (keysL b) ∧ Keeps w w' [] := by
  obtain ⟨j0, hj0, yz0, yz1, yz2⟩ := info_parts Tryz.infoStr
  obtain ⟨i0, hi0, hz0, hz1, hz2⟩ := info_parts Tryz.infoByte
  obtain ⟨A0, n, cp, rfl, hn, -⟩ := hv.form
  have HV := Lib.hid hv
  have HN := Lib.hid hn
  have HB := Lib.hid (fun i (h : i + 6 ≤ b.length) => win_wf hb (k := (b.drop i).take 6) (mem_wins.2 ⟨i, h, rfl⟩))
  have hn1 : n ≤ 1000000 := by omega
  have hcap := hv.cap
  clear hv hn hb hl
  have hmm := @run_makeMap Tryz.prog
  by_cases h6 : n < 6
  · have hk0 : keysL b = [] := by
      have h1 := keys_len b
      have h2 := ded_len (wins b)
      rw [wins_len] at h2
      have h3 := HN.out
      exact List.eq_nil_of_length_eq_zero (by unfold keysL; omega)
    have HK := Lib.hid hk0
    clear hk0
    have h6' : decide ((0 : Int) < (n : Int) - 6 + 1) = false := decide_eq_false (by omega)
    go_enter Tryz.func40, Tryz.ntmps40
    go_wp2_with fail
    all_goals
      refine wp_loop_rounds 1 ?_
      rw [rounds_succ]
      go_wp2_with fail
      go_ret
      refine ⟨_, rfl, ?_, (Keeps.refl w []).alloc (.map #[] 0)⟩
      rw [HK.out]
      exact OwnS.nil _ _
  have hp : 0 < n := by omega
  obtain ⟨bb, oo, rfl, hbb, -⟩ := HV.out.addr hp
  have h61 : (0 : Int) < (n : Int) - 6 + 1 := by omega
  go_enter Tryz.func40, Tryz.ntmps40
  go_wp2_with fail
  focus
    clear hmm h61
    have m0 := MapS.made w
    have k0 := (Keeps.refl w []).alloc (.map #[] 0)
    obtain ⟨N, hN⟩ : ∃ N : Nat, N = n - 5 := ⟨_, rfl⟩
    have e0 : (n : Int) - 6 + 1 = (N : Int) := by omega
    rw [e0]
    have HNN := Lib.hid hN
    have hN2 : N + 5 ≤ n := by omega
    clear hN e0
    generalize w.alloc (.map #[] 0) = W0 at *
    go_loopw [2, 12] (fun s2 s12 wr => ∃ (i : Nat) (a : Option Addr) (c : Nat), i ≤ N ∧ s12 = .int .i64 i ∧ s2 = .slice a (dedL ((wins b).take i)).length c ∧ OwnS wr (w.heap.size + 1) s2 (dedL ((wins b).take i)) ∧ MapS wr w.heap.size i (cntF ((wins b).take i)) ∧ Keeps w wr []) (fun _ s12 _ => N - (intOf s12).toNat)
    case atStart => exact ⟨0, none, 0, Nat.zero_le _, rfl, rfl, OwnS.nil _ _, by rw [List.take_zero, cntF_nil]; exact m0, k0⟩
    case round =>
      obtain ⟨i, a, c, hi, rfl, rfl, ow, mp, kk⟩ := hrel
      by_cases hlt : i < N
      · have hii : (i : Int) < (N : Int) := by omega
        obtain ⟨q, hq⟩ : ∃ q, q = (b.drop i).take 6 := ⟨_, rfl⟩
        have hn6 : i + 6 ≤ b.length := by have := HN.out; omega
        have hwf : KeyWf q := by rw [hq]; exact HB.out i hn6
        have hsl := run_slice2 (P := Tryz.prog) Tryz.underlying33 hi0 hz1 (b := bb) (o := oo) (n := n) (c := cp) (i := i) (j := i + 6) (x := (i : Int)) (y := (i : Int) + 6) rfl (by omega) (by omega) (by omega) (by omega) wr
        rw [show i + 6 - i = 6 by omega] at hsl
        have hcv : (convert 33 9 (.slice (some ⟨bb, oo + i, none⟩) 6 (cp - i))).run Tryz.prog wr = .ok (keyS q) wr := by
          rw [hq]
          exact str_of ((HV.out.keeps kk).piece (p := i) (q := 6) (by omega) (cp - i) (by omega)) Tryz.underlying33 Tryz.underlying5 Tryz.underlying9
        have hstep : (wins b).take (i + 1) = (wins b).take i ++ [q] := by rw [hq]; exact wins_take hn6
        have hlook := mp.look hwf
        have hcnt : (cntF ((wins b).take i) q).getD 0 = (((wins b).take i).count q : Nat) := cntF_get _ _
        have hcl : ((wins b).take i).count q ≤ i := Nat.le_trans List.count_le_length (List.length_take_le _ _)
        obtain ⟨C, hC⟩ : ∃ C, C = ((wins b).take i).count q := ⟨_, rfl⟩
        rw [hcnt, ← hC] at hlook
        rw [← hC] at hcl
        obtain ⟨w2, hu1, mp2, g2⟩ := mp.update hwf ((C : Int) + 1) (WalkArith.wf_i64 (by omega)) (by unfold maxLen; omega)
        have hf2 : upd (cntF ((wins b).take i)) q ((C : Int) + 1) = cntF ((wins b).take (i + 1)) := by rw [hstep, hC]; exact cntF_snoc _ _
        rw [hf2] at mp2
        have hlook2 := mp2.look hwf
        have hcnt2 : (cntF ((wins b).take (i + 1)) q).getD 0 = (C : Int) + 1 := by rw [cntF_get, hstep, List.count_append, hC]; simp
        rw [hcnt2] at hlook2
        have k2 : Keeps wr w2 [w.heap.size] := Keeps.of_grown g2 (fun k hk => by cases hk; simp)
        have hlt0 := mp.lt
        have hk2 : Keeps w w2 [] := kk.trans k2 (fun j hj hl => by have := List.mem_singleton.1 hj; omega)
        have ow2 : OwnS w2 (w.heap.size + 1) (.slice a (dedL ((wins b).take i)).length c) (dedL ((wins b).take i)) := own_keepsS ow k2 (fun j hj => by have := List.mem_singleton.1 hj; omega)
        have hdl := ded_len ((wins b).take i)
        have htl : ((wins b).take i).length ≤ i := List.length_take_le _ _
        have HM2 := Lib.hid mp2
        have HO2 := Lib.hid ow2
        have HK2 := Lib.hid hk2
        clear hq hn6 hcnt hf2 hcnt2 g2 mp2 ow2 hk2 ow mp
        by_cases hin : q ∈ (wins b).take i
        · have hc1 : 1 ≤ C := by rw [hC]; exact List.one_le_count_iff.2 hin
          have heq : ((C : Int) + 1 == 1) = false := by simp; omega
          have hded := ded_old hin
          rw [← hstep] at hded
          have HD := Lib.hid hded
          clear hded hC hin hstep
          go_wp2_with fail
          go_roundw
          case rel => exact ⟨i + 1, a, c, by omega, by go_num, by rw [HD.out], by rw [HD.out]; exact HO2.out, HM2.out, HK2.out⟩
          case measure => simp [intOf]; omega
        · have hc0 : C = 0 := by rw [hC]; exact List.count_eq_zero.2 hin
          have hded := ded_new hin
          rw [← hstep] at hded
          have HD := Lib.hid hded
          clear hded hC hin hstep
          subst hc0
          simp only [Int.natCast_zero, Int.zero_add] at hlook hu1 hlook2
          generalize (dedL ((wins b).take i)) = L at *
          obtain ⟨M, hM⟩ : ∃ M, M = L.length := ⟨_, rfl⟩
          rw [← hM] at hdl ⊢
          have HO3 : Hid (OwnS w2 (w.heap.size + 1) (.slice a M c) L) := by rw [hM]; exact HO2.out
          have HMM := Lib.hid hM
          have hz2 : w.heap.size < w2.heap.size := by have := k2.size; omega
          clear hM HO2
          go_wp2_with (first | (at_builtin; go_loud (refine wpList_app1V rfl _ _ 25 rfl (w.heap.size + 1) 9 j0 (.string .empty) 16 Tryz.underlying25 hj0 yz0 yz1 yz2 rfl (.slice a M c) M (cellsW rowS L) (keyS q) rfl w2.heap.size rfl rfl rfl (by have h := HO3.out; unfold OwnS at h; rw [← HMM.out] at h; exact h) (by unfold maxLen; omega) (by omega) (by omega) ?_; intro a3 c3 w3 own3 k3)))
          go_roundw
          case rel =>
            refine ⟨i + 1, a3, c3, by omega, by go_num, by rw [HD.out, HMM.out]; simp, ?_, ?_, ?_⟩
            · rw [HD.out]
              unfold OwnS
              rw [List.length_append, ← HMM.out, cellsW_append rowS_len]
              exact own3
            · exact HM2.out.keeps k3 (own_sep HO3.out (Nat.lt_succ_self _))
            · exact keeps_row HK2.out k3 (fun g hg => by have := (World.ownsRow.lt HO3.out g hg).1; omega)
          case measure => simp [intOf]; omega
      · have hii : decide ((i : Int) < (N : Int)) = false := decide_eq_false (by omega)
        have hiN : i = N := by omega
        subst hiN
        go_wp2_with fail
        go_ret
        refine ⟨_, rfl, ?_, kk⟩
        have hall : (wins b).take i = wins b := List.take_of_length_le (by rw [wins_len]; have := HNN.out; have := HN.out; omega)
        rw [hall] at ow
        rw [hall]
        exact own_base ow (Nat.le_succ _)
end

end Go.Proofs.YtogengangfohfaaGreat
