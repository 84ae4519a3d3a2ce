/-
  Walks over package limit: Uniform, whatever it is asked.
-/
import Derived.Test.YthjbngnihcmedaaJW
import Derived.Test.YthjbngnihcmedaaBl
namespace Go.Proofs.Ythjbngnihcmedaa
set_option linter.unusedVariables false
set_option linter.unusedSimpArgs false
open Go.RowKit

/-- Flat code lengths. -/
def flatL (n : Nat) : List Int := List.replicate (2 * 2 ^ n.log2 - n) (n.log2 : Int) ++ List.replicate (n - (2 * 2 ^ n.log2 - n)) ((n.log2 : Int) + 1)
def flatErr (n m : Int) : Int := if (decide (0 ≤ n) && decide (n ≤ 256)) && (decide (1 ≤ m) && decide (m ≤ 11)) then (if 1 < n then (if n.toNat ≤ 2 ^ m.toNat then 0 else 18) else 22) else 2
def flatOut (n m : Int) : List Int := if flatErr n m = 0 then flatL n.toNat else []

theorem must_yesB {b : Bool} (h : b = true) (n : Int) (w : World) : Calls Try.prog 37 #[.bool b, .int .i64 n] w fun e w' => e = .returned (.tuple #[]) ∧ w = w' := by subst h; exact must_yes n w
theorem must_noB {b : Bool} (h : b = false) (n : Int) (w : World) : Calls Try.prog 37 #[.bool b, .int .i64 n] w fun e w' => e = .panicked [{ v := .iface 26 (.int .i64 n), recovered := false }] ∧ w = w' := by subst h; exact must_no n w

set_option maxRecDepth 100000 in
set_option maxHeartbeats 2000000 in
theorem uniform_arg0 (n m : Int) (w : World) (h : n < 0) : Calls Try.prog 27 #[.int .i64 n, .int .i64 m] w (ListEnd w [] 2) := by
  have hmf : ∀ (fn : Fn) (first cap : Array Value) (w : World), (Instr.makeFunc fn first cap).run Try.prog w = .ok (.func fn first cap) w := fun _ _ _ _ => rfl
  have d1 : decide (0 ≤ n) = false := decide_eq_false (by omega)
  go_enter_defers Try.func27, Try.ntmps27
  go_wp2_with fail
  have k0 : Keeps w ((w.alloc (.cells #[.slice none 0 0] 22)).alloc (.cells #[.int .i64 0] 26)) [] := ((Keeps.refl w []).alloc _).alloc _
  have bo := (Blk.new w #[.slice none 0 0] 22).alloc (.cells #[.int .i64 0] 26)
  have be := Blk.new (w.alloc (.cells #[.slice none 0 0] 22)) #[.int .i64 0] 26
  simp only [World.size_alloc] at be
  refine (must_noB (by simp) 2 _).mono ?_
  rintro e w5 ⟨rfl, rfl⟩
  obtain ⟨e0, e1⟩ := be.one
  obtain ⟨o0, o1⟩ := bo.one
  go_wp2_with fail
  refine leaves_cons (f := 33) (args := #[.pointer (some ⟨w.heap.size + 1, 0, none⟩), .func (.func 46) #[] #[.pointer (some ⟨w.heap.size, 0, none⟩)]]) (by simp) (by simp [go_sem]) ?_
  refine (caught_flat _ _ 2 _ _ _ _ [] _ be bo (by omega)).mono ?_
  rintro e u' w'' ⟨rfl, rfl, rfl⟩
  refine ⟨.tuple #[.slice none 0 0, .int .i64 2], by simp only [results, Try.results27]; go_simp, ?_⟩
  refine ⟨_, rfl, RdI.nil, (fun ad n c h => by cases h), ?_⟩
  exact Keeps.setCell' (.inl (by dsimp only; omega)) (Keeps.setCell' (.inl (by dsimp only; omega)) k0)

set_option maxRecDepth 100000 in
set_option maxHeartbeats 2000000 in
theorem uniform_arg1 (n m : Int) (w : World) (h0 : 0 ≤ n) (h : 256 < n) : Calls Try.prog 27 #[.int .i64 n, .int .i64 m] w (ListEnd w [] 2) := by
  have hmf : ∀ (fn : Fn) (first cap : Array Value) (w : World), (Instr.makeFunc fn first cap).run Try.prog w = .ok (.func fn first cap) w := fun _ _ _ _ => rfl
  have d1 : decide (0 ≤ n) = true := decide_eq_true (by omega)
  have d2 : decide (n ≤ 256) = false := decide_eq_false (by omega)
  go_enter_defers Try.func27, Try.ntmps27
  go_wp2_with fail
  have k0 : Keeps w ((w.alloc (.cells #[.slice none 0 0] 22)).alloc (.cells #[.int .i64 0] 26)) [] := ((Keeps.refl w []).alloc _).alloc _
  have bo := (Blk.new w #[.slice none 0 0] 22).alloc (.cells #[.int .i64 0] 26)
  have be := Blk.new (w.alloc (.cells #[.slice none 0 0] 22)) #[.int .i64 0] 26
  simp only [World.size_alloc] at be
  refine (must_noB (by simp) 2 _).mono ?_
  rintro e w5 ⟨rfl, rfl⟩
  obtain ⟨e0, e1⟩ := be.one
  obtain ⟨o0, o1⟩ := bo.one
  go_wp2_with fail
  refine leaves_cons (f := 33) (args := #[.pointer (some ⟨w.heap.size + 1, 0, none⟩), .func (.func 46) #[] #[.pointer (some ⟨w.heap.size, 0, none⟩)]]) (by simp) (by simp [go_sem]) ?_
  refine (caught_flat _ _ 2 _ _ _ _ [] _ be bo (by omega)).mono ?_
  rintro e u' w'' ⟨rfl, rfl, rfl⟩
  refine ⟨.tuple #[.slice none 0 0, .int .i64 2], by simp only [results, Try.results27]; go_simp, ?_⟩
  refine ⟨_, rfl, RdI.nil, (fun ad n c h => by cases h), ?_⟩
  exact Keeps.setCell' (.inl (by dsimp only; omega)) (Keeps.setCell' (.inl (by dsimp only; omega)) k0)

set_option maxRecDepth 100000 in
set_option maxHeartbeats 2000000 in
theorem uniform_arg2 (n m : Int) (w : World) (h0 : 0 ≤ n) (h1 : n ≤ 256) (h : m < 1) : Calls Try.prog 27 #[.int .i64 n, .int .i64 m] w (ListEnd w [] 2) := by
  have hmf : ∀ (fn : Fn) (first cap : Array Value) (w : World), (Instr.makeFunc fn first cap).run Try.prog w = .ok (.func fn first cap) w := fun _ _ _ _ => rfl
  have d1 : decide (0 ≤ n) = true := decide_eq_true (by omega)
  have d2 : decide (n ≤ 256) = true := decide_eq_true (by omega)
  have d3 : decide (1 ≤ m) = false := decide_eq_false (by omega)
  go_enter_defers Try.func27, Try.ntmps27
  go_wp2_with fail
  have k0 : Keeps w ((w.alloc (.cells #[.slice none 0 0] 22)).alloc (.cells #[.int .i64 0] 26)) [] := ((Keeps.refl w []).alloc _).alloc _
  have bo := (Blk.new w #[.slice none 0 0] 22).alloc (.cells #[.int .i64 0] 26)
  have be := Blk.new (w.alloc (.cells #[.slice none 0 0] 22)) #[.int .i64 0] 26
  simp only [World.size_alloc] at be
  refine (must_noB (by simp) 2 _).mono ?_
  rintro e w5 ⟨rfl, rfl⟩
  obtain ⟨e0, e1⟩ := be.one
  obtain ⟨o0, o1⟩ := bo.one
  go_wp2_with fail
  refine leaves_cons (f := 33) (args := #[.pointer (some ⟨w.heap.size + 1, 0, none⟩), .func (.func 46) #[] #[.pointer (some ⟨w.heap.size, 0, none⟩)]]) (by simp) (by simp [go_sem]) ?_
  refine (caught_flat _ _ 2 _ _ _ _ [] _ be bo (by omega)).mono ?_
  rintro e u' w'' ⟨rfl, rfl, rfl⟩
  refine ⟨.tuple #[.slice none 0 0, .int .i64 2], by simp only [results, Try.results27]; go_simp, ?_⟩
  refine ⟨_, rfl, RdI.nil, (fun ad n c h => by cases h), ?_⟩
  exact Keeps.setCell' (.inl (by dsimp only; omega)) (Keeps.setCell' (.inl (by dsimp only; omega)) k0)

set_option maxRecDepth 100000 in
set_option maxHeartbeats 2000000 in
theorem uniform_arg3 (n m : Int) (w : World) (h0 : 0 ≤ n) (h1 : n ≤ 256) (h2 : 1 ≤ m) (h : 11 < m) : Calls Try.prog 27 #[.int .i64 n, .int .i64 m] w (ListEnd w [] 2) := by
  have hmf : ∀ (fn : Fn) (first cap : Array Value) (w : World), (Instr.makeFunc fn first cap).run Try.prog w = .ok (.func fn first cap) w := fun _ _ _ _ => rfl
  have d1 : decide (0 ≤ n) = true := decide_eq_true (by omega)
  have d2 : decide (n ≤ 256) = true := decide_eq_true (by omega)
  have d3 : decide (1 ≤ m) = true := decide_eq_true (by omega)
  have d4 : decide (m ≤ 11) = false := decide_eq_false (by omega)
  go_enter_defers Try.func27, Try.ntmps27
  go_wp2_with fail
  have k0 : Keeps w ((w.alloc (.cells #[.slice none 0 0] 22)).alloc (.cells #[.int .i64 0] 26)) [] := ((Keeps.refl w []).alloc _).alloc _
  have bo := (Blk.new w #[.slice none 0 0] 22).alloc (.cells #[.int .i64 0] 26)
  have be := Blk.new (w.alloc (.cells #[.slice none 0 0] 22)) #[.int .i64 0] 26
  simp only [World.size_alloc] at be
  refine (must_noB (by simp) 2 _).mono ?_
  rintro e w5 ⟨rfl, rfl⟩
  obtain ⟨e0, e1⟩ := be.one
  obtain ⟨o0, o1⟩ := bo.one
  go_wp2_with fail
  refine leaves_cons (f := 33) (args := #[.pointer (some ⟨w.heap.size + 1, 0, none⟩), .func (.func 46) #[] #[.pointer (some ⟨w.heap.size, 0, none⟩)]]) (by simp) (by simp [go_sem]) ?_
  refine (caught_flat _ _ 2 _ _ _ _ [] _ be bo (by omega)).mono ?_
  rintro e u' w'' ⟨rfl, rfl, rfl⟩
  refine ⟨.tuple #[.slice none 0 0, .int .i64 2], by simp only [results, Try.results27]; go_simp, ?_⟩
  refine ⟨_, rfl, RdI.nil, (fun ad n c h => by cases h), ?_⟩
  exact Keeps.setCell' (.inl (by dsimp only; omega)) (Keeps.setCell' (.inl (by dsimp only; omega)) k0)

set_option maxRecDepth 100000 in
set_option maxHeartbeats 2000000 in
theorem uniform_none (n m : Int) (w : World) (h0 : 0 ≤ n) (h1 : n ≤ 1) (h2 : 1 ≤ m) (h3 : m ≤ 11) : Calls Try.prog 27 #[.int .i64 n, .int .i64 m] w (ListEnd w [] 22) := by
  have hmf : ∀ (fn : Fn) (first cap : Array Value) (w : World), (Instr.makeFunc fn first cap).run Try.prog w = .ok (.func fn first cap) w := fun _ _ _ _ => rfl
  have d1 : decide (0 ≤ n) = true := decide_eq_true (by omega)
  have d2 : decide (n ≤ 256) = true := decide_eq_true (by omega)
  have d3 : decide (1 ≤ m) = true := decide_eq_true (by omega)
  have d4 : decide (m ≤ 11) = true := decide_eq_true (by omega)
  go_enter_defers Try.func27, Try.ntmps27
  go_wp2_with fail
  have k0 : Keeps w ((w.alloc (.cells #[.slice none 0 0] 22)).alloc (.cells #[.int .i64 0] 26)) [] := ((Keeps.refl w []).alloc _).alloc _
  have bo := (Blk.new w #[.slice none 0 0] 22).alloc (.cells #[.int .i64 0] 26)
  have be := Blk.new (w.alloc (.cells #[.slice none 0 0] 22)) #[.int .i64 0] 26
  simp only [World.size_alloc] at be
  refine (must_yesB (by first | (simp; done) | (simp; omega)) 2 _).mono ?_
  rintro e w5 ⟨rfl, rfl⟩
  go_wp2_with fail
  refine (must_noB (by first | (simp; done) | (simp; omega)) 22 _).mono ?_
  rintro e w5 ⟨rfl, rfl⟩
  obtain ⟨e0, e1⟩ := be.one
  obtain ⟨o0, o1⟩ := bo.one
  go_wp2_with fail
  refine leaves_cons (f := 33) (args := #[.pointer (some ⟨w.heap.size + 1, 0, none⟩), .func (.func 46) #[] #[.pointer (some ⟨w.heap.size, 0, none⟩)]]) (by simp) (by simp [go_sem]) ?_
  refine (caught_flat _ _ 22 _ _ _ _ [] _ be bo (by omega)).mono ?_
  rintro e u' w'' ⟨rfl, rfl, rfl⟩
  refine ⟨.tuple #[.slice none 0 0, .int .i64 22], by simp only [results, Try.results27]; go_simp, ?_⟩
  refine ⟨_, rfl, RdI.nil, (fun ad n c h => by cases h), ?_⟩
  exact Keeps.setCell' (.inl (by dsimp only; omega)) (Keeps.setCell' (.inl (by dsimp only; omega)) k0)

set_option maxRecDepth 100000 in
set_option maxHeartbeats 2000000 in
theorem uniform_many (N m : Nat) (w : World) (h1 : 1 < N) (h0 : N ≤ 256) (h2 : 1 ≤ m) (h3 : m ≤ 11) (hb : ¬ N ≤ 2 ^ m) : Calls Try.prog 27 #[.int .i64 (N : Int), .int .i64 (m : Int)] w (ListEnd w [] 18) := by
  have hmf : ∀ (fn : Fn) (first cap : Array Value) (w : World), (Instr.makeFunc fn first cap).run Try.prog w = .ok (.func fn first cap) w := fun _ _ _ _ => rfl
  have d1 : decide ((0 : Int) ≤ (N : Int)) = true := decide_eq_true (by omega)
  have d2 : decide ((N : Int) ≤ 256) = true := decide_eq_true (by omega)
  have d3 : decide ((1 : Int) ≤ (m : Int)) = true := decide_eq_true (by omega)
  have d4 : decide ((m : Int) ≤ 11) = true := decide_eq_true (by omega)
  have hm0 : (0 : Int) ≤ (m : Int) := by omega
  have hm11 : (m : Int) ≤ 11 := by omega
  have HB := Lib.hid hb
  clear hb
  go_enter_defers Try.func27, Try.ntmps27
  go_wp2_with fail
  have k0 : Keeps w ((w.alloc (.cells #[.slice none 0 0] 22)).alloc (.cells #[.int .i64 0] 26)) [] := ((Keeps.refl w []).alloc _).alloc _
  have bo := (Blk.new w #[.slice none 0 0] 22).alloc (.cells #[.int .i64 0] 26)
  have be := Blk.new (w.alloc (.cells #[.slice none 0 0] 22)) #[.int .i64 0] 26
  simp only [World.size_alloc] at be
  refine (must_yesB (by first | (simp; done) | (simp; omega)) 2 _).mono ?_
  rintro e w5 ⟨rfl, rfl⟩
  go_wp2_with fail
  refine (must_yesB (by first | (simp; done) | (simp; omega)) 22 _).mono ?_
  rintro e w5 ⟨rfl, rfl⟩
  go_wp2_with fail
  refine (must_noB ?_ 18 _).mono ?_
  · rw [(wrap_powK m (by omega)).1]
    exact decide_eq_false (fun h => HB.out (by omega))
  rintro e w5 ⟨rfl, rfl⟩
  obtain ⟨e0, e1⟩ := be.one
  obtain ⟨o0, o1⟩ := bo.one
  go_wp2_with fail
  refine leaves_cons (f := 33) (args := #[.pointer (some ⟨w.heap.size + 1, 0, none⟩), .func (.func 46) #[] #[.pointer (some ⟨w.heap.size, 0, none⟩)]]) (by simp) (by simp [go_sem]) ?_
  refine (caught_flat _ _ 18 _ _ _ _ [] _ be bo (by omega)).mono ?_
  rintro e u' w'' ⟨rfl, rfl, rfl⟩
  refine ⟨.tuple #[.slice none 0 0, .int .i64 18], by simp only [results, Try.results27]; go_simp, ?_⟩
  refine ⟨_, rfl, RdI.nil, (fun ad n c h => by cases h), ?_⟩
  exact Keeps.setCell' (.inl (by dsimp only; omega)) (Keeps.setCell' (.inl (by dsimp only; omega)) k0)

theorem flat_row {k : Nat} {n i M : Nat} (hi : i < M) (hM : M ≤ n) : (List.replicate i (k : Int) ++ List.replicate (n - i) ((k : Int) + 1)).set i (k : Int) = List.replicate (i + 1) (k : Int) ++ List.replicate (n - (i + 1)) ((k : Int) + 1) := by
  obtain ⟨q, hq⟩ : ∃ q, n - i = q + 1 := ⟨n - i - 1, by omega⟩
  rw [List.set_append_right _ _ (by simp), List.length_replicate, Nat.sub_self, hq, List.replicate_succ, List.set_cons_zero, show n - (i + 1) = q by omega, List.replicate_succ', List.append_assoc]
  rfl

set_option maxRecDepth 100000 in
set_option maxHeartbeats 4000000 in
theorem uniform_yes (N m : Nat) (w : World) (h1 : 1 < N) (h0 : N ≤ 256) (h2 : 1 ≤ m) (h3 : m ≤ 11) (hb : N ≤ 2 ^ m) : Calls Try.prog 27 #[.int .i64 (N : Int), .int .i64 (m : Int)] w (ListEnd w (flatL N) 0) := by
  have hmf : ∀ (fn : Fn) (first cap : Array Value) (w : World), (Instr.makeFunc fn first cap).run Try.prog w = .ok (.func fn first cap) w := fun _ _ _ _ => rfl
  have d1 : decide ((0 : Int) ≤ (N : Int)) = true := decide_eq_true (by omega)
  have d2 : decide ((N : Int) ≤ 256) = true := decide_eq_true (by omega)
  have d3 : decide ((1 : Int) ≤ (m : Int)) = true := decide_eq_true (by omega)
  have d4 : decide ((m : Int) ≤ 11) = true := decide_eq_true (by omega)
  have hm0 : (0 : Int) ≤ (m : Int) := by omega
  have hm11 : (m : Int) ≤ 11 := by omega
  have HB := Lib.hid hb
  have hbl : ∀ w, Calls Try.prog 47 #[.int .u64 (N : Int)] w fun e w' => e = .returned (.int .i64 ((N.log2 : Int) + 1)) ∧ w = w' := fun w => by
    refine (Try.bits_Len (N : Int) w (by omega) (by omega)).mono ?_
    rintro e w' ⟨rfl, rfl⟩
    rw [Int.toNat_natCast, bitLen_log (by omega) (by omega)]
    exact ⟨rfl, rfl⟩
  have HL := Lib.hid hbl
  have hk8 : N.log2 ≤ 8 := by have := (Nat.log2_lt (by omega : N ≠ 0) (k := 9)).2 (by omega); omega
  have HP : Hid (2 ^ N.log2 ≤ N ∧ N < 2 * 2 ^ N.log2) := ⟨Nat.log2_self_le (by omega), by have := Nat.lt_log2_self (n := N); rw [Nat.pow_succ] at this; omega⟩
  obtain ⟨FL, hFL⟩ : ∃ FL, FL = flatL N := ⟨_, rfl⟩
  have HFL := Lib.hid hFL
  rw [← hFL]
  clear hb hbl hFL
  unfold flatL at HFL
  generalize N.log2 = K at *
  go_enter_defers Try.func27, Try.ntmps27
  go_wp2_with fail
  have k0 : Keeps w ((w.alloc (.cells #[.slice none 0 0] 22)).alloc (.cells #[.int .i64 0] 26)) [] := ((Keeps.refl w []).alloc _).alloc _
  have bo := (Blk.new w #[.slice none 0 0] 22).alloc (.cells #[.int .i64 0] 26)
  have be := Blk.new (w.alloc (.cells #[.slice none 0 0] 22)) #[.int .i64 0] 26
  simp only [World.size_alloc] at be
  refine (must_yesB (by first | (simp; done) | (simp; omega)) 2 _).mono ?_
  rintro e w5 ⟨rfl, rfl⟩
  go_wp2_with fail
  refine (must_yesB (by first | (simp; done) | (simp; omega)) 22 _).mono ?_
  rintro e w5 ⟨rfl, rfl⟩
  go_wp2_with fail
  refine (must_yesB ?_ 18 _).mono ?_
  · rw [(wrap_powK m (by omega)).1]
    exact decide_eq_true (by have := HB.out; omega)
  rintro e w5 ⟨rfl, rfl⟩
  have hN0 : (0 : Int) ≤ (N : Int) := Int.natCast_nonneg _
  have hNb : (N : Int) ≤ 256 := by omega
  have hKb : (K : Int) ≤ 8 := by omega
  go_wp2_with (first | (go_at_call 47; refine (HL.out _).mono ?_; rintro e w' ⟨rfl, rfl⟩))
  have b1 := Blk.new ((w.alloc (.cells #[.slice none 0 0] 22)).alloc (.cells #[.int .i64 0] 26)) #[.int .i64 ((K : Int) + 1)] 3
  simp only [World.size_alloc] at b1
  refine (repeat_one ((K : Int) + 1) N (w.heap.size + 1 + 1) 0 1 _ (b1.cell 0) b1.lt (by omega) (by omega)).mono ?_
  rintro e w1 ⟨g, rfl, hg, hr, k1⟩
  simp only [World.size_alloc] at hg
  replace bo := (bo.alloc (.cells #[.int .i64 ((K : Int) + 1)] 3)).keeps k1 (by simp)
  replace be := (be.alloc (.cells #[.int .i64 ((K : Int) + 1)] 3)).keeps k1 (by simp)
  replace k0 := (k0.alloc (.cells #[.int .i64 ((K : Int) + 1)] 3)).then k1
  obtain ⟨c0, f0⟩ := bo.one
  clear k1 b1
  obtain ⟨M, hM⟩ : ∃ M, M = 2 * 2 ^ K - N := ⟨_, rfl⟩
  have hMN : M ≤ N := by have := HP.out; omega
  have hsl : Hid (wrap64 (wrap64 (2 * 2 ^ K) - (N : Int)) = (M : Int)) := by
    have h4 : ((2 : Int) ^ K) = ((2 ^ K : Nat) : Int) := by simp
    have h5 := HP.out
    show _ = _
    rw [h4]
    clear h4
    generalize 2 ^ K = P at *
    rw [IntWalk.wrap64_in (2 * (P : Int)) ⟨by omega, by omega⟩, IntWalk.wrap64_in _ ⟨by omega, by omega⟩]
    omega
  have HFL2 : Hid (FL = List.replicate M (K : Int) ++ List.replicate (N - M) ((K : Int) + 1)) := by show _ = _; rw [HFL.out, hM]
  clear hM HFL HP HB HL
  go_wp2_with fail
  rw [hsl.out]
  have HR0 := Lib.hid hr
  have HBO : Hid (Blk (w1.setCell ⟨w.heap.size, 0, none⟩ (.slice (some ⟨g, 0, none⟩) N N)) w.heap.size #[.slice (some ⟨g, 0, none⟩) N N] 22) := bo.set 0 _
  have HBE : Hid (Blk (w1.setCell ⟨w.heap.size, 0, none⟩ (.slice (some ⟨g, 0, none⟩) N N)) (w.heap.size + 1) #[.int .i64 0] 26) := be.setOther (by dsimp only; omega) _
  have HRR : Hid (RowI (w1.setCell ⟨w.heap.size, 0, none⟩ (.slice (some ⟨g, 0, none⟩) N N)) g N N (List.replicate N ((K : Int) + 1))) := hr.keeps ((Keeps.refl w1 [w.heap.size]).setCell (.inr (by simp)) _) (by simp; omega)
  have hkw : Keeps w (w1.setCell ⟨w.heap.size, 0, none⟩ (.slice (some ⟨g, 0, none⟩) N N)) [] := k0.setCell (.inl (Nat.le_refl _)) _
  clear c0 f0 hr bo be k0 HR0
  generalize (w1.setCell ⟨w.heap.size, 0, none⟩ (.slice (some ⟨g, 0, none⟩) N N)) = w2 at *
  go_loopw [45] (fun s45 wr => ∃ i : Nat, i ≤ M ∧ s45 = .int .i64 i ∧ Hid (RowI wr g N N (List.replicate i (K : Int) ++ List.replicate (N - i) ((K : Int) + 1))) ∧ Hid (Blk wr w.heap.size #[.slice (some ⟨g, 0, none⟩) N N] 22) ∧ Hid (Blk wr (w.heap.size + 1) #[.int .i64 0] 26) ∧ Keeps w wr []) (fun s45 _ => M - (intOf s45).toNat)
  case atStart => exact ⟨0, Nat.zero_le _, rfl, by simpa using HRR, HBO, HBE, hkw⟩
  case round =>
    obtain ⟨i, hi, rfl, hRow, hBO, hBE, kw⟩ := hrel
    obtain ⟨c0, c1⟩ := hBO.out.one
    clear HRR HBO HBE hkw
    by_cases hlt : i < M
    · have c2 := hRow.out.at (i := i) (x := (K : Int) + 1) (by rw [List.getElem?_append_right (by simp), List.length_replicate, Nat.sub_self, List.getElem?_replicate, if_pos (by omega)])
      have c3 := hRow.out.frozen i
      have hiN : (i : Int) < (N : Int) := by omega
      have hi0 : (0 : Int) ≤ (i : Int) := Int.natCast_nonneg _
      have hiM : (i : Int) < (M : Int) := by omega
      go_wp2_with fail
      have NR : Hid (RowI (wr.setCell ⟨g, i, none⟩ (.int .i64 (K : Int))) g N N (List.replicate (i + 1) (K : Int) ++ List.replicate (N - (i + 1)) ((K : Int) + 1))) := by
        show RowI _ _ _ _ _
        rw [← flat_row hlt hMN]
        exact hRow.out.set i (K : Int)
      go_roundw
      case rel => exact ⟨i + 1, by omega, by go_num, NR, hBO.out.setOther (by dsimp only; omega) _, hBE.out.setOther (by dsimp only; omega) _, kw.setCell (.inl (by dsimp only; omega)) _⟩
      case measure => simp [intOf]; omega
    · obtain rfl : i = M := by omega
      obtain ⟨e0, e1⟩ := hBE.out.one
      go_wp2_with fail
      refine leaves_cons (f := 33) (args := #[.pointer (some ⟨w.heap.size + 1, 0, none⟩), .func (.func 46) #[] #[.pointer (some ⟨w.heap.size, 0, none⟩)]]) (by simp) (by simp [go_sem]) ?_
      refine (caught_idle _ _ _).mono ?_
      rintro e u' w'' ⟨rfl, rfl, rfl⟩
      refine ⟨.tuple #[.slice (some ⟨g, 0, none⟩) N N, .int .i64 0], by simp only [results, Try.results27]; go_simp, ?_⟩
      rw [HFL2.out]
      refine ⟨_, rfl, ?_, ?_, ?_⟩
      · exact (((hRow.out.keeps (S := [w.heap.size]) ((Keeps.refl wr _).setCell (.inr (by simp)) _) (by simp; omega)).keeps (S := [w.heap.size + 1]) ((Keeps.refl _ _).setCell (.inr (by simp)) _) (by simp; omega))).reads
      · intro ad n' c' he
        cases he
        dsimp only
        omega
      · exact Keeps.setCell' (.inl (by dsimp only; omega)) (Keeps.setCell' (.inl (by dsimp only; omega)) kw)

/-- Uniform, whatever it is asked. -/
theorem uniform_any (n m : Int) (w : World) : Calls Try.prog 27 #[.int .i64 n, .int .i64 m] w (ListEnd w (flatOut n m) (flatErr n m)) := by
  have key : ∀ E : Int, E ≠ 0 → flatErr n m = E → Calls Try.prog 27 #[.int .i64 n, .int .i64 m] w (ListEnd w [] E) → Calls Try.prog 27 #[.int .i64 n, .int .i64 m] w (ListEnd w (flatOut n m) (flatErr n m)) := by
    intro E h1 h2 h
    have e : flatOut n m = [] := by rw [flatOut, h2, if_neg h1]
    rw [e, h2]
    exact h
  by_cases a : 0 ≤ n
  · by_cases b : n ≤ 256
    · by_cases c : 1 ≤ m
      · by_cases d : m ≤ 11
        · by_cases e : 1 < n
          · obtain ⟨N, rfl⟩ := Int.eq_ofNat_of_zero_le a
            obtain ⟨M, rfl⟩ := Int.eq_ofNat_of_zero_le (show 0 ≤ m by omega)
            by_cases f : N ≤ 2 ^ M
            · have e1 : flatErr (N : Int) (M : Int) = 0 := by simp [flatErr, b, c, d, e, f]
              rw [flatOut, e1, if_pos rfl, Int.toNat_natCast]
              exact uniform_yes N M w (by omega) (by omega) (by omega) (by omega) f
            · exact key 18 (by decide) (by simp [flatErr, b, c, d, e, f]) (uniform_many N M w (by omega) (by omega) (by omega) (by omega) f)
          · exact key 22 (by decide) (by simp [flatErr, a, b, c, d, e]) (uniform_none n m w a (by omega) c d)
        · exact key 2 (by decide) (by simp [flatErr, a, b, c, d]) (uniform_arg3 n m w a b c (by omega))
      · exact key 2 (by decide) (by simp [flatErr, a, b, c]) (uniform_arg2 n m w a b (by omega))
    · exact key 2 (by decide) (by simp [flatErr, a, b]) (uniform_arg1 n m w a (by omega))
  · exact key 2 (by decide) (by simp [flatErr, a]) (uniform_arg0 n m w (by omega))

end Go.Proofs.Ythjbngnihcmedaa
