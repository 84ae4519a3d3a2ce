/-
  Walks over the reference of tree descriptions: halves, coded, Get. (Printed by mkWr.py.)
-/
import Derived.Test.YtcmagccfagijlaaGreatQ28
import Derived.Test.YtcmagccfagijlaaGreatQ30
import Derived.Test.YtcmagccfagijlaaGreatQ31
import Derived.Test.YtcmagccfagijlaaGreatQ35
import Derived.Test.YtcmagccfagijlaaGreatQ37
import Derived.Test.YtcmagccfagijlaaGreatQ2
namespace Go.Proofs.YtcmagccfagijlaaGreat
set_option linter.unusedVariables false
set_option linter.unusedSimpArgs false
set_option linter.unusedSectionVars false
open Go.RowKit

/-- How the reference's readers of weights end. -/
def WtEnd (w : World) (L : List Int) (K : Nat) (E : Int) (e : Ending) (w' : World) : Prop :=
  Keeps w w' [] ∧ ∃ (r : Value) (N : Nat), e = .returned (.tuple #[r, .int .i64 (N : Int), .int .i64 E]) ∧ (E = 0 → RdI .i64 w' r L ∧ N = K)
theorem wtEnd_no {w w' : World} {L : List Int} {K N : Nat} {E : Int} (h : Keeps w w' []) (hE : E ≠ 0) (r : Value) : WtEnd w L K E (.returned (.tuple #[r, .int .i64 (N : Int), .int .i64 E])) w' := ⟨h, r, N, rfl, fun h0 => (hE h0).elim⟩

set_option maxRecDepth 100000 in
set_option maxHeartbeats 4000000 in
theorem rhalv_any (k m : Nat) (v : Value) (B : List Int) (w : World) (hv : RdI .u8 w v B) (hl : B.length ≤ 100000) (hb : ∀ x ∈ B, 0 ≤ x ∧ x ≤ 255) (hk : k ≤ B.length) (hm0 : 0 < m) (hm : m ≤ 1000) :
    Calls Tryz.prog 99 #[v, .int .i64 (k : Int), .int .i64 (m : Int)] w (WtEnd w (halvX B k m) (bytesK B k (((m + 1) / 2 : Nat) : Int)) (halvE B k m)) := by
  obtain ⟨i0, hi, hz0, hz1, hz2⟩ := info_parts Tryz.infoInt
  have HB := Lib.hid (rvbytes_any k ((m + 1) / 2) v B w hv (by omega) hk (by omega))
  unfold RByEnd at HB
  have hhE : Hid (halvE B k m = if bytesE B k (((m + 1) / 2 : Nat) : Int) ≠ 0 then bytesE B k (((m + 1) / 2 : Nat) : Int) else if ((nibX (bytesX B k (((m + 1) / 2 : Nat) : Int)))[m]?).getD 0 = 0 then 0 else 12) := rfl
  have hhX : Hid (halvX B k m = (nibX (bytesX B k (((m + 1) / 2 : Nat) : Int))).take m) := rfl
  have hll : bytesE B k (((m + 1) / 2 : Nat) : Int) = 0 → (bytesX B k (((m + 1) / 2 : Nat) : Int)).length = (m + 1) / 2 := fun h => bytesX_len hk h
  have hxb : ∀ x ∈ bytesX B k (((m + 1) / 2 : Nat) : Int), 0 ≤ x ∧ x ≤ 255 := fun x hx => hb x (bytesX_mem hx)
  obtain ⟨L, hL⟩ : ∃ L, bytesX B k (((m + 1) / 2 : Nat) : Int) = L := ⟨_, rfl⟩
  obtain ⟨E, hE⟩ : ∃ E, bytesE B k (((m + 1) / 2 : Nat) : Int) = E := ⟨_, rfl⟩
  obtain ⟨KB, hK⟩ : ∃ K, bytesK B k (((m + 1) / 2 : Nat) : Int) = K := ⟨_, rfl⟩
  obtain ⟨HE, hHE⟩ : ∃ E, halvE B k m = E := ⟨_, rfl⟩
  obtain ⟨HX, hHX⟩ : ∃ X, halvX B k m = X := ⟨_, rfl⟩
  rw [hL, hE, hK] at HB
  rw [hL, hE, hHE] at hhE
  rw [hL, hHX] at hhX
  rw [hL, hE] at hll
  rw [hL] at hxb
  rw [hK, hHE, hHX]
  obtain ⟨q, hq⟩ : ∃ q, (m + 1) / 2 = q := ⟨_, rfl⟩
  rw [hq] at HB hll
  have hq1 : q ≤ 1000 := by omega
  obtain ⟨M1, hM1⟩ : ∃ M1 : Int, (m : Int) + 1 = M1 := ⟨_, rfl⟩
  have hqi : M1 / 2 = (q : Int) := by omega
  have hw1 : wrap64 M1 = M1 := IntWalk.wrap64_in _ ⟨by omega, by omega⟩
  have HQ := Lib.hid hq
  have HXB := Lib.hid hxb
  have HLL := Lib.hid hll
  clear hv hl hb hk hL hE hK hHE hHX hll hxb hq
  by_cases hE0 : E = 0
  · subst hE0
    have HLN := Lib.hid (HLL.out rfl)
    clear HLL
    go_enter Tryz.func99, Tryz.ntmps99
    go_wp2_with (go_at_call 55; go_loud (refine HB.out.mono ?_; rintro e w1 ⟨r1, rfl, rd1, k1⟩; obtain ⟨a1, n1, c1, rfl, -, -⟩ := rd1.form))
    have hn1 : n1 = q := by have := rd1.len; have := HLN.out; omega
    subst hn1
    have hs1 := k1.size
    have RD := Lib.hid rd1
    have K1 := Lib.hid k1
    clear rd1 HB k1
    go_loopw [12, 13] (fun o i wr => ∃ (t : Nat) (a : Option Addr) (c : Nat), t ≤ n1 ∧ i = .int .i64 t ∧ o = .slice a (2 * t) c ∧ wr.ownsRow w1.heap.size 3 1 (.slice a (2 * t) c) (2 * t) ((nibX (L.take t)).map (.int .i64)) ∧ Keeps w1 wr []) (fun _ i _ => n1 - (intOf i).toNat)
    case atStart => exact ⟨0, none, 0, Nat.zero_le _, rfl, rfl, by simpa [nibX] using World.ownsRow_nil _ _ _ _, Keeps.refl _ _⟩
    case round =>
      obtain ⟨t, a, c, ht, rfl, rfl, own, kk⟩ := hrel
      by_cases hlt : t < n1
      · obtain ⟨x, hx⟩ : ∃ x, L[t]? = some x := ⟨_, List.getElem?_eq_getElem (by have := HLN.out; omega)⟩
        obtain ⟨b, o, rfl, hb, hcx⟩ := RD.out.at hx
        have LD : Hid (∀ w9, Keeps w1 w9 [] → w9.cell? ⟨b, o + t, none⟩ = some (.int .u8 x)) := Lib.hid (fun w9 k9 => (k9.cell (p := ⟨b, o + t, none⟩) hb (by simp)).trans hcx)
        have hcap := RD.out.cap
        have hxb := HXB.out x (List.mem_of_getElem? hx)
        have htn : (t : Int) < (n1 : Int) := by omega
        have hwx : IntKind.i64.wrap x = x := IntWalk.i64_in _ ⟨by omega, by omega⟩
        have hx16 : x.tmod 16 = x % 16 := Int.tmod_eq_emod_of_nonneg hxb.1
        have hx17 : x.tdiv 16 = x / 16 := Int.tdiv_eq_ediv_of_nonneg hxb.1
        have hw16 : IntKind.i64.wrap (x % 16) = x % 16 := IntWalk.i64_in _ ⟨by omega, by omega⟩
        have hw17 : IntKind.i64.wrap (x / 16) = x / 16 := IntWalk.i64_in _ ⟨by omega, by omega⟩
        have hs := kk.size
        have OW := Lib.hid own
        have HN := Lib.hid (nibX_next hx)
        clear hx hcx own
        go_wp2_with fail
        refine wp_region_held_drew (S := (fun w' => Keeps w1 w' [])) (by kernel_rfl) kk.drew (fun hHeld => ?_)
        refine takeL (i := 0) (v := ?_) rfl (by kernel_rfl) (by kernel_rfl) (by kernel_rfl) (fun _ _ _ h => h) (by rfl) ?_ (by assumption) ?_
        rotate_left
        · (intro w9 hSw; clear hSw; go_simp; (try with_reducible rfl))
        try simp only [Act.put, List.setIfInBounds_toArray, List.set_cons_zero, List.set_cons_succ]
        refine takeL (i := 1) (v := ?_) rfl (by kernel_rfl) (by kernel_rfl) (by kernel_rfl) (fun _ _ _ h => h) (by rfl) ?_ (by assumption) ?_
        rotate_left
        · (intro w9 hSw; clear hSw; go_simp; (try with_reducible rfl))
        try simp only [Act.put, List.setIfInBounds_toArray, List.set_cons_zero, List.set_cons_succ]
        refine takeL (i := 2) (v := ?_) rfl (by kernel_rfl) (by kernel_rfl) (by kernel_rfl) (fun _ _ _ h => h) (by rfl) ?_ (by assumption) ?_
        rotate_left
        · (intro w9 hSw; clear hSw; go_simp; (try with_reducible rfl))
        try simp only [Act.put, List.setIfInBounds_toArray, List.set_cons_zero, List.set_cons_succ]
        refine takeL (i := 3) (v := ?_) rfl (by kernel_rfl) (by kernel_rfl) (by kernel_rfl) (fun _ _ _ h => h) (by rfl) ?_ (by assumption) ?_
        rotate_left
        · (intro w9 hSw; clear hSw; go_simp; (try with_reducible rfl))
        try simp only [Act.put, List.setIfInBounds_toArray, List.set_cons_zero, List.set_cons_succ]
        refine takeL (i := 4) (v := ?_) rfl (by kernel_rfl) (by kernel_rfl) (by kernel_rfl) (fun _ _ _ h => h) (by rfl) ?_ (by assumption) ?_
        rotate_left
        · (intro w9 hSw; have q6 := LD.out w9 hSw; clear hSw; go_simp; (try with_reducible rfl))
        try simp only [Act.put, List.setIfInBounds_toArray, List.set_cons_zero, List.set_cons_succ]
        refine takeL (i := 5) (v := ?_) rfl (by kernel_rfl) (by kernel_rfl) (by kernel_rfl) (fun _ _ _ h => h) (by rfl) ?_ (by assumption) ?_
        rotate_left
        · (intro w9 hSw; clear hSw; go_simp; (try with_reducible rfl))
        try simp only [Act.put, List.setIfInBounds_toArray, List.set_cons_zero, List.set_cons_succ]
        refine takeL (i := 6) (v := ?_) rfl (by kernel_rfl) (by kernel_rfl) (by kernel_rfl) (fun _ _ _ h => h) (by rfl) ?_ (by assumption) ?_
        rotate_left
        · (intro w9 hSw; clear hSw; go_simp; (try with_reducible rfl))
        try simp only [Act.put, List.setIfInBounds_toArray, List.set_cons_zero, List.set_cons_succ]
        refine takeL (i := 7) (v := ?_) rfl (by kernel_rfl) (by kernel_rfl) (by kernel_rfl) (fun _ _ _ h => h) (by rfl) ?_ (by assumption) ?_
        rotate_left
        · (intro w9 hSw; clear hSw; go_simp; (try with_reducible rfl))
        try simp only [Act.put, List.setIfInBounds_toArray, List.set_cons_zero, List.set_cons_succ]
        refine takeL (i := 8) (v := ?_) rfl (by kernel_rfl) (by kernel_rfl) (by kernel_rfl) (fun _ _ _ h => h) (by rfl) ?_ (by assumption) ?_
        rotate_left
        · (intro w9 hSw; clear hSw; go_simp; (try with_reducible rfl))
        try simp only [Act.put, List.setIfInBounds_toArray, List.set_cons_zero, List.set_cons_succ]
        refine takeL (i := 9) (v := ?_) rfl (by kernel_rfl) (by kernel_rfl) (by kernel_rfl) (fun _ _ _ h => h) (by rfl) ?_ (by assumption) ?_
        rotate_left
        · (intro w9 hSw; clear hSw; go_simp; (try with_reducible rfl))
        try simp only [Act.put, List.setIfInBounds_toArray, List.set_cons_zero, List.set_cons_succ]
        refine takeL (i := 10) (v := ?_) rfl (by kernel_rfl) (by kernel_rfl) (by kernel_rfl) (fun _ _ _ h => h) (by rfl) ?_ (by assumption) ?_
        rotate_left
        · (intro w9 hSw; have q6 := LD.out w9 hSw; clear hSw; go_simp; (try with_reducible rfl))
        try simp only [Act.put, List.setIfInBounds_toArray, List.set_cons_zero, List.set_cons_succ]
        refine takeL (i := 11) (v := ?_) rfl (by kernel_rfl) (by kernel_rfl) (by kernel_rfl) (fun _ _ _ h => h) (by rfl) ?_ (by assumption) ?_
        rotate_left
        · (intro w9 hSw; clear hSw; go_simp; (try with_reducible rfl))
        try simp only [Act.put, List.setIfInBounds_toArray, List.set_cons_zero, List.set_cons_succ]
        refine takeL (i := 12) (v := ?_) rfl (by kernel_rfl) (by kernel_rfl) (by kernel_rfl) (fun _ _ _ h => h) (by rfl) ?_ (by assumption) ?_
        rotate_left
        · (intro w9 hSw; clear hSw; go_simp; (try with_reducible rfl))
        try simp only [Act.put, List.setIfInBounds_toArray, List.set_cons_zero, List.set_cons_succ]
        refine callL (i := 13) rfl (by kernel_rfl) (fun Kont hK => ?_)
        go_simp
        refine hK.out _ _ ?_ (fun hHeld => ?_)
        · exact hHeld.alloc _
        clear hK Kont
        refine callL (i := 14) rfl (by kernel_rfl) (fun Kont hK => ?_)
        refine step_appendI rfl _ _ 25 rfl w1.heap.size 3 i0 (.int .i64 0) 8 Tryz.underlying25 hi hz0 hz1 hz2 rfl (.slice a (2 * t) c) (2 * t) _ rfl (own_keeps OW.out (((Keeps.refl wr []).drew).alloc _)) (.slice (some ⟨wr.heap.size, 0, none⟩) 2 2) rfl .i64 [x % 16, x / 16] (two_reads (w := wr.drew)) (by simp; unfold maxLen; omega) (by simp; omega) (by simp; omega) ?_
        intro v3 w3 own3 g3
        obtain ⟨a3, c3, rfl⟩ := own_form own3
        refine hK.out _ _ ?_ (fun hHeld => ?_)
        · exact (kk.drew.alloc _).trans (Keeps.of_grown (S := match (Value.slice a (2 * t) c).ownBlock with | some g => [g] | none => []) g3 (fun k hk => by rw [hk]; simp)) (fun j hj hl => by have := young OW.out j hj; omega)
        clear hK Kont
        refine takeL (i := 15) (v := ?_) rfl (by kernel_rfl) (by kernel_rfl) (by kernel_rfl) (fun _ _ _ h => h) (by rfl) ?_ (by assumption) ?_
        rotate_left
        · (intro w9 hSw; clear hSw; go_simp; (try with_reducible rfl))
        try simp only [Act.put, List.setIfInBounds_toArray, List.set_cons_zero, List.set_cons_succ]
        refine wpAnyH_done (by kernel_rfl) ?_ _
        go_wp2_with fail
        go_roundw
        case rel =>
          refine ⟨t + 1, a3, c3, by omega, by go_num, rfl, ?_, hHeld⟩
          rw [HN.out, List.map_append]
          exact own3
        case measure => simp [intOf]; omega
      · obtain rfl : t = n1 := by omega
        have htake : L.take t = L := List.take_of_length_le (by have := HLN.out; omega)
        rw [htake] at own
        have hnl : (nibX L).length = 2 * t := by rw [nibX_len, HLN.out]
        have kf := K1.out.trans kk (fun j hj _ => by cases hj)
        have RDX := Lib.hid (own_reads (l := nibX L) (by rw [hnl]; exact own))
        have htn : decide ((t : Int) < (t : Int)) = false := by simp
        obtain ⟨g, ha, hgb⟩ : ∃ g, a = some ⟨g, 0, none⟩ ∧ w1.heap.size ≤ g := by
          rcases own.2 with ⟨h1, h2⟩ | ⟨g, cp, cur, h1, h2, -⟩
          · have := HQ.out; omega
          · cases h1; exact ⟨g, rfl, h2⟩
        subst ha
        have hcap := RDX.out.cap
        have HPC := Lib.hid (fun (hmt : 0 + m ≤ 2 * t) => RDX.out.piece (p := 0) (q := m) hmt c (by omega))
        by_cases hev : m = 2 * t
        · have hnone : ((nibX L)[m]?).getD 0 = 0 := by rw [List.getElem?_eq_none (by omega)]; rfl
          have HP := Lib.hid (HPC.out (by omega))
          have hh := hhE.out
          rw [if_neg (by simp), if_pos hnone] at hh
          subst hh
          have hcm : m ≤ c := by omega
          rw [← hev] at hcap ⊢
          clear HPC RDX own hnone hnl htake hev HLN HXB HQ
          go_wp2_with fail
          refine bodyPost_ret (v := .tuple #[.slice (some ⟨g, 0, none⟩) m c, .int .i64 (KB : Int), .int .i64 0]) (by simp only [results, Tryz.results99]; go_simp) rfl ⟨kf, _, KB, rfl, fun _ => ⟨?_, rfl⟩⟩
          rw [hhX.out]
          simpa using HP.out
        · have hod : 2 * t = m + 1 := by have := HQ.out; omega
          obtain ⟨y, hy⟩ : ∃ y, (nibX L)[m]? = some y := ⟨_, List.getElem?_eq_getElem (by omega)⟩
          obtain ⟨b', o', he, -, hcy⟩ := RDX.out.at hy
          cases he
          rw [Nat.zero_add] at hcy
          have HP := Lib.hid (HPC.out (by omega))
          rw [hod] at hcap ⊢
          have hmlt : (m : Int) < M1 := by omega
          have hcm : m ≤ c := by omega
          have hh := hhE.out
          rw [if_neg (by simp), hy] at hh
          simp only [Option.getD_some] at hh
          by_cases hy0 : y = 0
          · subst hy0
            rw [if_pos rfl] at hh
            subst hh
            clear HPC RDX own hnl htake hod HLN HXB HQ hy hev
            go_wp2_with fail
            refine bodyPost_ret (v := .tuple #[.slice (some ⟨g, 0, none⟩) m c, .int .i64 (KB : Int), .int .i64 0]) (by simp only [results, Tryz.results99]; go_simp) rfl ⟨kf, _, KB, rfl, fun _ => ⟨?_, rfl⟩⟩
            rw [hhX.out]
            simpa using HP.out
          · have hy0' : (y == 0) = false := by simpa using hy0
            have hy1' : (y != 0) = true := by simpa using hy0
            rw [if_neg hy0] at hh
            subst hh
            clear HPC RDX own hnl htake hod HLN HXB HQ hy hev
            go_wp2_with fail
            exact bodyPost_ret (v := .tuple #[.slice none 0 0, .int .i64 (k : Int), .int .i64 12]) (by simp only [results, Tryz.results99]; go_simp) rfl (wtEnd_no kf (by decide) _)
  · have hE1 : (E != 0) = true := by simpa using hE0
    have hE2 : (E == 0) = false := by simpa using hE0
    have hh := hhE.out
    rw [if_pos hE0] at hh
    subst hh
    have H0 := Lib.hid hE0
    clear HQ HLL HXB hhX hE0
    go_enter Tryz.func99, Tryz.ntmps99
    go_wp2_with (go_at_call 55; go_loud (refine HB.out.mono ?_; rintro e w1 ⟨r1, rfl, -, k1⟩))
    exact bodyPost_ret (v := .tuple #[.slice none 0 0, .int .i64 (k : Int), .int .i64 HE]) (by simp only [results, Tryz.results99]; go_simp) rfl (wtEnd_no k1 H0.out _)

theorem descP_nb {D : List Int} {symbols G nb : Nat} {log : Int} {norm : List Int} (h : descP D symbols log = .ok (G, norm, nb)) : nb ≤ D.length := by
  unfold descP at h
  split at h
  · cases h
  · split at h
    · injection h with h
      injection h with h1 h2
      injection h2 with h2 h3
      omega
    · cases h
theorem numK_le {B : List Int} {k M : Nat} (h : k ≤ B.length) : numK B k M ≤ B.length := by
  have h1 := (varR_bound B 9 0 0 k h).2.2
  unfold numK
  split
  · unfold varK
    split
    · exact h1
    · exact h
  · exact h
theorem bytesK_le {B : List Int} {k m : Nat} (h : k ≤ B.length) : bytesK B k (m : Int) ≤ B.length := by
  unfold bytesK
  split
  · rename_i h1
    unfold bytesE at h1
    rw [if_neg (by omega)] at h1
    split at h1
    · cases h1
    · omega
  · exact h
theorem bytesX_le {B : List Int} {k : Nat} {m : Int} : (bytesX B k m).length ≤ B.length := by
  unfold bytesX
  split
  · rw [List.length_take, List.length_drop]; omega
  · simp

/-- How the reference's reader of format 1 ends. -/
def CodRef (w : World) (R : Except Int (List Int) × Nat) (e : Ending) (w' : World) : Prop :=
  Keeps w w' [] ∧ match R.1 with
    | .ok out => ∃ r, e = .returned (.tuple #[r, .int .i64 (R.2 : Int), .int .i64 0]) ∧ RdI .i64 w' r out
    | .error n => n ≠ 0 ∧ ∃ (r : Value) (N : Nat), e = .returned (.tuple #[r, .int .i64 (N : Int), .int .i64 n])

set_option maxRecDepth 100000 in
set_option maxHeartbeats 4000000 in
theorem rcoded_any (k m : Nat) (v : Value) (B : List Int) (w : World) (hv : RdI .u8 w v B) (hl : B.length ≤ 100000) (hb : ∀ x ∈ B, 0 ≤ x ∧ x ≤ 255) (hk : k ≤ B.length) (hm1 : 1 ≤ m) (hm : m ≤ 131072) :
    Calls Tryz.prog 100 #[v, .int .i64 (k : Int), .int .i64 (m : Int)] w (CodRef w (codedR B k m)) := by
  have HD0 := rdget_any k 12 6 v B w hv hl hb hk (by decide)
  rw [← descP_cut _ 12 6 (by decide)] at HD0
  unfold RGetEnd at HD0
  rw [show ((12 : Nat) : Int) = 12 from rfl] at HD0
  obtain ⟨A0, n, cp, rfl, -, -⟩ := hv.form
  cases hd : descP ((B.drop k).take 1024) 12 6 with
  | error er =>
    rw [hd] at HD0
    have HD := Lib.hid HD0
    have hR : codedR B k m = (.error er, k) := by unfold codedR; rw [hd]
    rw [hR]
    clear HD0 hv hl hb hk hd hR hm1 hm
    go_enter Tryz.func100, Tryz.ntmps100
    go_wp2_with (go_at_call 52; go_loud (refine HD.out.mono ?_; rintro e w1 ⟨k1, her, rfl⟩; have her1 : (er != 0) = true := (by simpa using her); have her2 : (er == 0) = false := (by simpa using her); have HER := Lib.hid her; clear her))
    refine bodyPost_ret (v := .tuple #[.slice none 0 0, .int .i64 (k : Int), .int .i64 er]) (by simp only [results, Tryz.results100]; go_simp) rfl ⟨?_, HER.out, _, _, rfl⟩
    first | exact k1 | exact k1.alloc _ | exact Keeps.setCell' (.inl (by simpa using k1.size)) (k1.alloc _)
  | ok z =>
    obtain ⟨g, norm, nb⟩ := z
    rw [hd] at HD0
    have hnb := descP_nb hd
    rw [List.length_take, List.length_drop] at hnb
    have hK1l : k + nb ≤ B.length := by omega
    obtain ⟨RR, hRR⟩ : ∃ R, codedR B k m = R := ⟨_, rfl⟩
    rw [hRR]
    unfold codedR at hRR
    rw [hd] at hRR
    simp only at hRR HD0
    obtain ⟨K1, hK1⟩ : ∃ K, k + nb = K := ⟨_, rfl⟩
    rw [hK1] at hRR HD0 hK1l
    have HN := Lib.hid (fun W (kk : Keeps w W []) => rvnumber_any K1 131072 _ B W (hv.keeps kk) (by omega) hb hK1l (by decide))
    rw [show ((131072 : Nat) : Int) = 131072 from rfl] at HN
    have hnk := numK_le (M := 131072) hK1l
    have hXB : numX B K1 131072 ≤ 131072 := by
      unfold numX
      split
      · rename_i h
        unfold numE at h
        split at h
        · cases h
        · rename_i hq; omega
      · omega
    have HBY := Lib.hid (fun W (kk : Keeps w W []) => rvbytes_any (numK B K1 131072) (numX B K1 131072) _ B W (hv.keeps kk) (by omega) hnk (by omega))
    unfold RByEnd at HBY
    have hbl := bytesX_le (B := B) (k := numK B K1 131072) (m := ((numX B K1 131072 : Nat) : Int))
    have hbb : ∀ x ∈ bytesX B (numK B K1 131072) ((numX B K1 131072 : Nat) : Int), 0 ≤ x ∧ x ≤ 255 := fun x hx => hb x (bytesX_mem hx)
    obtain ⟨NX, hNX⟩ : ∃ N, numX B K1 131072 = N := ⟨_, rfl⟩
    obtain ⟨NK, hNK⟩ : ∃ N, numK B K1 131072 = N := ⟨_, rfl⟩
    obtain ⟨NE, hNE⟩ : ∃ N, numE B K1 131072 = N := ⟨_, rfl⟩
    rw [hNX, hNK, hNE] at HN hRR
    rw [hNX, hNK] at HBY hbl hbb
    obtain ⟨BX, hBX⟩ : ∃ N, bytesX B NK (NX : Int) = N := ⟨_, rfl⟩
    obtain ⟨BK, hBK⟩ : ∃ N, bytesK B NK (NX : Int) = N := ⟨_, rfl⟩
    obtain ⟨BE, hBE⟩ : ∃ N, bytesE B NK (NX : Int) = N := ⟨_, rfl⟩
    rw [hBX, hBK, hBE] at HBY hRR
    rw [hBX] at hbl hbb
    obtain ⟨nl, hnl⟩ : ∃ n, norm.length = n := ⟨_, rfl⟩
    rw [hnl] at HD0
    have HF := Lib.hid (fun W nv bv (h1 : RdI .i64 W nv norm) (h2 : RdI .u8 W bv BX) (h3 : nl ≤ 1300) => rfdec_any (g : Int) nv bv norm BX m W h1 (by omega) h2 (by omega) hbb hm hm1)
    have HD := Lib.hid HD0
    have HNL := Lib.hid hnl
    clear HD0 hv hl hb hk hd hm1 hm hnb hK1l hK1 hnk hXB hbl hbb hNX hNK hNE hBX hBK hBE hnl
    by_cases hE : NE = 0
    · subst hE
      rw [if_neg (by simp)] at hRR
      by_cases hE2 : BE = 0
      · subst hE2
        rw [if_neg (by simp)] at hRR
        obtain ⟨F, hF⟩ : ∃ F, flowD (g : Int) norm BX m = F := ⟨_, rfl⟩
        rw [hF] at HF hRR
        subst hRR
        clear hF
        unfold FlowEnd at HF
        cases F with
        | ok out =>
          simp only at HF
          go_enter Tryz.func100, Tryz.ntmps100
          go_wp2_with (first
            | (go_at_call 52; go_loud (refine HD.out.mono ?_; rintro e w1 ⟨k1, a, c, rfl, own1, hnl2⟩; have kT := k1.alloc (.cells #[.int .i64 (g : Int), .slice a nl c] 27); have bT := Blk.new w1 #[.int .i64 (g : Int), .slice a nl c] 27; have OW1 := Lib.hid own1; clear own1))
            | (go_at_call 54; go_loud (refine (HN.out _ kT).mono ?_; rintro e w2 ⟨rfl, k2⟩; have kk2 := kT.then k2; have b2 := bT.keeps k2 (by simp)))
            | (go_at_call 55; go_loud (refine (HBY.out _ kk2).mono ?_; rintro e w3 ⟨rb, rfl, rdb, k3⟩; have kk3 := kk2.then k3; have b3 := b2.keeps k3 (by simp); have c0 := b3.cell 0; have c1 := b3.cell 1; simp at c0 c1))
            | (go_at_call 137; go_loud (have hrn : RdI .i64 w3 (.slice a nl c) norm := (by have h := own_keeps (own_keeps (own_keeps OW1.out ((Keeps.refl w1 []).alloc (.cells #[.int .i64 (g : Int), .slice a nl c] 27))) k2) k3; have hl := HNL.out; subst hl; exact own_reads h); refine (HF.out w3 _ _ hrn rdb hnl2).mono ?_; rintro e w4 ⟨k4, r, rfl, rdr, -⟩; have RDR := Lib.hid rdr; have K4 := Lib.hid (kk3.then k4); clear rdr k4)))
          exact bodyPost_ret (v := .tuple #[r, .int .i64 (BK : Int), .int .i64 0]) (by simp only [results, Tryz.results100]; go_simp) rfl ⟨K4.out, r, rfl, RDR.out⟩
        | error er =>
          simp only at HF
          go_enter Tryz.func100, Tryz.ntmps100
          go_wp2_with (first
            | (go_at_call 52; go_loud (refine HD.out.mono ?_; rintro e w1 ⟨k1, a, c, rfl, own1, hnl2⟩; have kT := k1.alloc (.cells #[.int .i64 (g : Int), .slice a nl c] 27); have bT := Blk.new w1 #[.int .i64 (g : Int), .slice a nl c] 27; have OW1 := Lib.hid own1; clear own1))
            | (go_at_call 54; go_loud (refine (HN.out _ kT).mono ?_; rintro e w2 ⟨rfl, k2⟩; have kk2 := kT.then k2; have b2 := bT.keeps k2 (by simp)))
            | (go_at_call 55; go_loud (refine (HBY.out _ kk2).mono ?_; rintro e w3 ⟨rb, rfl, rdb, k3⟩; have kk3 := kk2.then k3; have b3 := b2.keeps k3 (by simp); have c0 := b3.cell 0; have c1 := b3.cell 1; simp at c0 c1))
            | (go_at_call 137; go_loud (have hrn : RdI .i64 w3 (.slice a nl c) norm := (by have h := own_keeps (own_keeps (own_keeps OW1.out ((Keeps.refl w1 []).alloc (.cells #[.int .i64 (g : Int), .slice a nl c] 27))) k2) k3; have hl := HNL.out; subst hl; exact own_reads h); refine (HF.out w3 _ _ hrn rdb hnl2).mono ?_; rintro e w4 ⟨k4, her, rfl⟩; have HER := Lib.hid her; have K4 := Lib.hid (kk3.then k4); clear her k4)))
          exact bodyPost_ret (v := .tuple #[.slice none 0 0, .int .i64 (BK : Int), .int .i64 er]) (by simp only [results, Tryz.results100]; go_simp) rfl ⟨K4.out, HER.out, _, _, rfl⟩
      · have hB1 : (BE != 0) = true := by simpa using hE2
        have hB2 : (BE == 0) = false := by simpa using hE2
        rw [if_pos hE2] at hRR
        subst hRR
        have HE2 := Lib.hid hE2
        clear hE2 HF
        go_enter Tryz.func100, Tryz.ntmps100
        go_wp2_with (first
          | (go_at_call 52; go_loud (refine HD.out.mono ?_; rintro e w1 ⟨k1, a, c, rfl, own1, hnl2⟩; have kT := k1.alloc (.cells #[.int .i64 (g : Int), .slice a nl c] 27); have bT := Blk.new w1 #[.int .i64 (g : Int), .slice a nl c] 27; have OW1 := Lib.hid own1; clear own1))
          | (go_at_call 54; go_loud (refine (HN.out _ kT).mono ?_; rintro e w2 ⟨rfl, k2⟩; have kk2 := kT.then k2; have b2 := bT.keeps k2 (by simp)))
          | (go_at_call 55; go_loud (refine (HBY.out _ kk2).mono ?_; rintro e w3 ⟨rb, rfl, rdb, k3⟩; have kk3 := kk2.then k3; have b3 := b2.keeps k3 (by simp); have c0 := b3.cell 0; have c1 := b3.cell 1; simp at c0 c1)))
        exact bodyPost_ret (v := .tuple #[.slice none 0 0, .int .i64 (k : Int), .int .i64 BE]) (by simp only [results, Tryz.results100]; go_simp) rfl ⟨kk3, HE2.out, _, _, rfl⟩
    · have hB1 : (NE != 0) = true := by simpa using hE
      have hB2 : (NE == 0) = false := by simpa using hE
      rw [if_pos hE] at hRR
      subst hRR
      have HE2 := Lib.hid hE
      clear hE HF HBY
      go_enter Tryz.func100, Tryz.ntmps100
      go_wp2_with (first
        | (go_at_call 52; go_loud (refine HD.out.mono ?_; rintro e w1 ⟨k1, a, c, rfl, own1, hnl2⟩; have kT := k1.alloc (.cells #[.int .i64 (g : Int), .slice a nl c] 27); have bT := Blk.new w1 #[.int .i64 (g : Int), .slice a nl c] 27; have OW1 := Lib.hid own1; clear own1))
        | (go_at_call 54; go_loud (refine (HN.out _ kT).mono ?_; rintro e w2 ⟨rfl, k2⟩; have kk2 := kT.then k2; have b2 := bT.keeps k2 (by simp))))
      exact bodyPost_ret (v := .tuple #[.slice none 0 0, .int .i64 (k : Int), .int .i64 NE]) (by simp only [results, Tryz.results100]; go_simp) rfl ⟨kk2, HE2.out, _, _, rfl⟩


end Go.Proofs.YtcmagccfagijlaaGreat
