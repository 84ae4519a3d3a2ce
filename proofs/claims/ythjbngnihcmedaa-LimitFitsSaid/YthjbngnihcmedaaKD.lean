/-
  Walks over the references of package limit: Flat.
-/
import Derived.Test.YthjbngnihcmedaaKC
namespace Go.Proofs.Ythjbngnihcmedaa
set_option linter.unusedVariables false
set_option linter.unusedSimpArgs false
set_option linter.unusedSectionVars false
open Go.RowKit

def RefList (w : World) (L : List Int) (E : Int) (e : Ending) (w' : World) : Prop :=
  ∃ v, e = .returned (.tuple #[v, .int .i64 E]) ∧ RdI .i64 w' v L ∧ (∀ ad n c, v = .slice (some ad) n c → w.heap.size ≤ ad.block) ∧ Keeps w w' []

set_option maxHeartbeats 2000000 in
theorem r_flat_arg (n m : Int) (w : World) (h : n < 0 ∨ 256 < n ∨ m < 1 ∨ 11 < m) : Calls Try.prog 24 #[.int .i64 n, .int .i64 m] w (RefList w [] 2) := by
  by_cases a : n < 0
  · clear h
    go_enter Try.func24, Try.ntmps24
    go_wp2_with fail
    go_ret2
    exact ⟨_, rfl, RdI.nil, (fun ad n c h => by cases h), Keeps.refl _ _⟩
  · have d1 : decide (n < 0) = false := decide_eq_false a
    by_cases b : 256 < n
    · clear h
      go_enter Try.func24, Try.ntmps24
      go_wp2_with fail
      go_ret2
      exact ⟨_, rfl, RdI.nil, (fun ad n c h => by cases h), Keeps.refl _ _⟩
    · have d2 : decide (256 < n) = false := decide_eq_false b
      by_cases c : m < 1
      · clear h
        go_enter Try.func24, Try.ntmps24
        go_wp2_with fail
        go_ret2
        exact ⟨_, rfl, RdI.nil, (fun ad n c h => by cases h), Keeps.refl _ _⟩
      · have d3 : decide (m < 1) = false := decide_eq_false c
        have d4 : 11 < m := by omega
        clear h
        go_enter Try.func24, Try.ntmps24
        go_wp2_with fail
        go_ret2
        exact ⟨_, rfl, RdI.nil, (fun ad n c h => by cases h), Keeps.refl _ _⟩

set_option maxHeartbeats 2000000 in
theorem r_flat_none (n m : Int) (w : World) (h0 : 0 ≤ n) (h1 : n ≤ 1) (h2 : 1 ≤ m) (h3 : m ≤ 11) : Calls Try.prog 24 #[.int .i64 n, .int .i64 m] w (RefList w [] 22) := by
  have d1 : decide (n < 0) = false := decide_eq_false (by omega)
  have d2 : decide (256 < n) = false := decide_eq_false (by omega)
  have d3 : decide (m < 1) = false := decide_eq_false (by omega)
  have d4 : decide (11 < m) = false := decide_eq_false (by omega)
  have d5 : n < 2 := by omega
  go_enter Try.func24, Try.ntmps24
  go_wp2_with fail
  go_ret2
  exact ⟨_, rfl, RdI.nil, (fun ad n c h => by cases h), Keeps.refl _ _⟩

set_option maxHeartbeats 2000000 in
theorem r_flat_many (N m : Nat) (w : World) (h1 : 1 < N) (h0 : N ≤ 256) (h2 : 1 ≤ m) (h3 : m ≤ 11) (hb : ¬ N ≤ 2 ^ m) : Calls Try.prog 24 #[.int .i64 (N : Int), .int .i64 (m : Int)] w (RefList w [] 18) := by
  have d1 : decide ((N : Int) < 0) = false := decide_eq_false (by omega)
  have d2 : decide (256 < (N : Int)) = false := decide_eq_false (by omega)
  have d3 : decide ((m : Int) < 1) = false := decide_eq_false (by omega)
  have d4 : decide (11 < (m : Int)) = false := decide_eq_false (by omega)
  have d5 : decide ((N : Int) < 2) = false := decide_eq_false (by omega)
  have hm0 : (0 : Int) ≤ (m : Int) := by omega
  have hm11 : (m : Int) ≤ 11 := by omega
  have HB : Hid (decide (wrap64 ((2 : Int) ^ m) < (N : Int)) = true) := by
    show _ = _
    rw [(wrap_powK m (by omega)).1]
    exact decide_eq_true (by omega)
  clear hb
  have hd := HB.out
  go_enter Try.func24, Try.ntmps24
  go_wp2_with fail
  go_ret2
  exact ⟨_, rfl, RdI.nil, (fun ad n c h => by cases h), Keeps.refl _ _⟩

theorem flat_get {K N M i : Nat} (hM : M ≤ N) (hi : i < N) : (List.replicate M (K : Int) ++ List.replicate (N - M) ((K : Int) + 1))[i]? = some (if i < M then (K : Int) else (K : Int) + 1) := by
  by_cases h : i < M
  · rw [if_pos h, List.getElem?_append_left (by simpa using h), List.getElem?_replicate, if_pos h]
  · rw [if_neg h, List.getElem?_append_right (by simp; omega), List.length_replicate, List.getElem?_replicate, if_pos (by omega)]
theorem dbl_log {K N k : Nat} (hk : k ≤ K) (hK : K ≤ 8) (h1 : 2 ^ K ≤ N) (h2 : N < 2 * 2 ^ K) : decide (wrap64 (2 * 2 ^ k) ≤ (N : Int)) = decide (k < K) := by
  have h4 : ((2 : Int) ^ k) = ((2 ^ k : Nat) : Int) := by simp
  have h5 : 2 ^ k ≤ 256 := Nat.pow_le_pow_right (by decide : 0 < 2) (by omega : k ≤ 8)
  have hw : wrap64 (2 * ((2 ^ k : Nat) : Int)) = 2 * ((2 ^ k : Nat) : Int) := by
    clear h1 h2 h4
    generalize 2 ^ k = P at *
    exact IntWalk.wrap64_in _ ⟨by omega, by omega⟩
  rw [h4, hw, Bool.eq_iff_iff]
  simp only [decide_eq_true_eq]
  constructor
  · intro h
    by_cases he : k = K
    · subst he; omega
    · omega
  · intro h
    have : 2 ^ (k + 1) ≤ 2 ^ K := Nat.pow_le_pow_right (by decide) h
    rw [Nat.pow_succ] at this
    omega

set_option maxRecDepth 100000 in
set_option maxHeartbeats 4000000 in
theorem r_flat_yes (N m : Nat) (w : World) (h1 : 1 < N) (h0 : N ≤ 256) (h2 : 1 ≤ m) (h3 : m ≤ 11) (hb : N ≤ 2 ^ m) : Calls Try.prog 24 #[.int .i64 (N : Int), .int .i64 (m : Int)] w (RefList w (flatL N) 0) := by
  have d1 : decide ((N : Int) < 0) = false := decide_eq_false (by omega)
  have d2 : decide (256 < (N : Int)) = false := decide_eq_false (by omega)
  have d3 : decide ((m : Int) < 1) = false := decide_eq_false (by omega)
  have d4 : decide (11 < (m : Int)) = false := decide_eq_false (by omega)
  have d5 : decide ((N : Int) < 2) = false := decide_eq_false (by omega)
  have hm0 : (0 : Int) ≤ (m : Int) := by omega
  have hm11 : (m : Int) ≤ 11 := by omega
  have HB : Hid (decide (wrap64 ((2 : Int) ^ m) < (N : Int)) = false) := by
    show _ = _
    rw [(wrap_powK m (by omega)).1]
    exact decide_eq_false (by omega)
  have hk8 : N.log2 ≤ 8 := by have := (Nat.log2_lt (by omega : N ≠ 0) (k := 9)).2 (by omega); omega
  have HP : Hid (2 ^ N.log2 ≤ N ∧ N < 2 * 2 ^ N.log2) := ⟨Nat.log2_self_le (by omega), by have := Nat.lt_log2_self (n := N); rw [Nat.pow_succ] at this; omega⟩
  obtain ⟨FL, hFL⟩ : ∃ FL, FL = flatL N := ⟨_, rfl⟩
  have HFL := Lib.hid hFL
  rw [← hFL]
  unfold flatL at HFL
  clear hb hFL
  generalize N.log2 = K at *
  have DL := Lib.hid (fun k (hk : k ≤ K) => dbl_log hk hk8 HP.out.1 HP.out.2)
  obtain ⟨M, hM⟩ : ∃ M, M = 2 * 2 ^ K - N := ⟨_, rfl⟩
  have hMN : M ≤ N := by have := HP.out; omega
  have hsl : Hid (wrap64 (wrap64 (2 * 2 ^ K) - (N : Int)) = (M : Int)) := by
    have h4 : ((2 : Int) ^ K) = ((2 ^ K : Nat) : Int) := by simp
    have h5 := HP.out
    show _ = _
    rw [h4]
    clear h4
    generalize 2 ^ K = P at *
    rw [IntWalk.wrap64_in (2 * (P : Int)) ⟨by omega, by omega⟩, IntWalk.wrap64_in _ ⟨by omega, by omega⟩]
    omega
  have HFL2 : Hid (FL = List.replicate M (K : Int) ++ List.replicate (N - M) ((K : Int) + 1)) := by show _ = _; rw [HFL.out, hM]
  have hFLl : Hid (FL.length = N) := by show _ = _; rw [HFL2.out]; simp; omega
  have HGET : Hid (∀ i, i < N → FL[i]? = some (if i < M then (K : Int) else (K : Int) + 1)) := by intro i hi; rw [HFL2.out]; exact flat_get hMN hi
  obtain ⟨i0, hi, hz0, hz1, hz2⟩ := info_parts Try.infoInt
  clear hM HFL HP HFL2
  have hd := HB.out
  have hKb : (K : Int) ≤ 8 := by omega
  go_enter Try.func24, Try.ntmps24
  go_wp2_with fail
  clear hd d1 d2 d3 d4 d5
  go_loop [6] (fun s6 => ∃ k : Nat, k ≤ K ∧ s6 = .int .i64 k) (fun s6 => K - (intOf s6).toNat)
  case atStart => exact ⟨0, Nat.zero_le _, rfl⟩
  case round =>
    obtain ⟨k, hk, rfl⟩ := hrel
    have hkb : (k : Int) ≤ 8 := by omega
    have hk0 : (0 : Int) ≤ (k : Int) := Int.natCast_nonneg _
    by_cases hlt : k < K
    · have hd := DL.out k hk
      rw [decide_eq_true hlt] at hd
      go_wp2_with fail
      go_round
      case rel => exact ⟨k + 1, by omega, by go_num⟩
      case measure => simp [intOf]; omega
    · obtain rfl : k = K := by omega
      have hd := DL.out k hk
      rw [decide_eq_false hlt] at hd
      go_wp2_with fail
      clear hd DL
      go_loopw [7, 8] (fun s7 s8 wr => ∃ i : Nat, i ≤ N ∧ s8 = .int .i64 i ∧ wr.ownsRow w.heap.size 3 1 s7 (FL.take i).length ((FL.take i).map (Value.int .i64)) ∧ Keeps w wr []) (fun _ s8 _ => N - (intOf s8).toNat)
      case atStart => exact ⟨0, Nat.zero_le _, rfl, World.ownsRow_nil _ _ _ _, Keeps.refl _ _⟩
      case round =>
        obtain ⟨i, hi2, rfl, hown, kk⟩ := hrel
        have hli : (FL.take i).length = i := by have := hFLl.out; simp; omega
        by_cases hlt2 : i < N
        · have hx := HGET.out i hlt2
          have hst2 := Lib.hid (take_next hx)
          have HLI := Lib.hid hli
          have hiN : (i : Int) < (N : Int) := by omega
          clear hx hli
          by_cases hiM : i < M
          · have hd : decide ((i : Int) < wrap64 (wrap64 (2 * 2 ^ k) - (N : Int))) = true := by rw [hsl.out]; exact decide_eq_true (by omega)
            rw [if_pos hiM] at hst2
            generalize FL.take i = U at *
            have hul : U.length ≤ 256 := by have := HLI.out; omega
            go_wp2_with (first | (at_builtin; refine (wpList_append_own _ rfl _ _ 22 rfl w.heap.size 3 i0 (.int .i64 0) 1 8 Try.underlying22 hi hz0 hz1 hz2 rfl (by decide) u7 U.length _ rfl (hown.alloc _) ⟨wr.heap.size, 0, none⟩ 1 1 [.int .i64 (k : Int)] rfl rfl (cell_one_new _ _ _) (by simp [Value.oneCell']) (by unfold maxLen; omega) (by omega) (by have := kk.size; simp; omega) ?_); intro v5 w5 hown5 hg5 _))
            go_roundw
            case rel =>
              refine ⟨i + 1, by omega, by go_num, by rw [hst2.out]; simpa using hown5, ?_⟩
              refine Keeps.trans (kk.alloc _) (Keeps.of_grown (S := u7.ownBlock.toList) hg5 (fun j hj => by simpa using hj)) (fun j hj hlt2 => ?_)
              have hj' : u7.ownBlock = some j := by simpa using hj
              have := (hown.lt j hj').1
              omega
            case measure => simp [intOf]; omega
          · have hd : decide ((i : Int) < wrap64 (wrap64 (2 * 2 ^ k) - (N : Int))) = false := by rw [hsl.out]; exact decide_eq_false (by omega)
            rw [if_neg hiM] at hst2
            generalize FL.take i = U at *
            have hul : U.length ≤ 256 := by have := HLI.out; omega
            go_wp2_with (first | (at_builtin; refine (wpList_append_own _ rfl _ _ 22 rfl w.heap.size 3 i0 (.int .i64 0) 1 8 Try.underlying22 hi hz0 hz1 hz2 rfl (by decide) u7 U.length _ rfl (hown.alloc _) ⟨wr.heap.size, 0, none⟩ 1 1 [.int .i64 ((k : Int) + 1)] rfl rfl (cell_one_new _ _ _) (by simp [Value.oneCell']) (by unfold maxLen; omega) (by omega) (by have := kk.size; simp; omega) ?_); intro v5 w5 hown5 hg5 _))
            go_roundw
            case rel =>
              refine ⟨i + 1, by omega, by go_num, by rw [hst2.out]; simpa using hown5, ?_⟩
              refine Keeps.trans (kk.alloc _) (Keeps.of_grown (S := u7.ownBlock.toList) hg5 (fun j hj => by simpa using hj)) (fun j hj hlt2 => ?_)
              have hj' : u7.ownBlock = some j := by simpa using hj
              have := (hown.lt j hj').1
              omega
            case measure => simp [intOf]; omega
        · obtain rfl : i = N := by omega
          go_wp2_with fail
          go_ret2
          rw [List.take_of_length_le (by have := hFLl.out; omega)] at hown
          refine ⟨_, rfl, own_reads hown, fun ad n c he => ?_, kk⟩
          have he' : u7 = _ := he
          exact (hown.lt ad.block (by rw [he']; rfl)).1

theorem r_flat (n m : Int) (w : World) : Calls Try.prog 24 #[.int .i64 n, .int .i64 m] w (RefList w (flatOut n m) (flatErr n m)) := by
  have key : ∀ E : Int, E ≠ 0 → flatErr n m = E → Calls Try.prog 24 #[.int .i64 n, .int .i64 m] w (RefList w [] E) → Calls Try.prog 24 #[.int .i64 n, .int .i64 m] w (RefList w (flatOut n m) (flatErr n m)) := by
    intro E h1 h2 h
    have e : flatOut n m = [] := by rw [flatOut, h2, if_neg h1]
    rw [e, h2]
    exact h
  by_cases a : 0 ≤ n
  · by_cases b : n ≤ 256
    · by_cases c : 1 ≤ m
      · by_cases d : m ≤ 11
        · by_cases e : 1 < n
          · obtain ⟨N, rfl⟩ := Int.eq_ofNat_of_zero_le a
            obtain ⟨M, rfl⟩ := Int.eq_ofNat_of_zero_le (show 0 ≤ m by omega)
            by_cases f : N ≤ 2 ^ M
            · have e1 : flatErr (N : Int) (M : Int) = 0 := by simp [flatErr, b, c, d, e, f]
              rw [flatOut, e1, if_pos rfl, Int.toNat_natCast]
              exact r_flat_yes N M w (by omega) (by omega) (by omega) (by omega) f
            · exact key 18 (by decide) (by simp [flatErr, b, c, d, e, f]) (r_flat_many N M w (by omega) (by omega) (by omega) (by omega) f)
          · exact key 22 (by decide) (by simp [flatErr, a, b, c, d, e]) (r_flat_none n m w a (by omega) c d)
        · exact key 2 (by decide) (by simp [flatErr, a, b, c, d]) (r_flat_arg n m w (by omega))
      · exact key 2 (by decide) (by simp [flatErr, a, b, c]) (r_flat_arg n m w (by omega))
    · exact key 2 (by decide) (by simp [flatErr, a, b]) (r_flat_arg n m w (by omega))
  · exact key 2 (by decide) (by simp [flatErr, a]) (r_flat_arg n m w (by omega))

end Go.Proofs.Ythjbngnihcmedaa
