/-
  Walks over package limit: Lengths, its errors and all of it.
-/
import Derived.Test.YthjbngnihcmedaaJI
namespace Go.Proofs.Ythjbngnihcmedaa
set_option linter.unusedVariables false
set_option linter.unusedSimpArgs false
open Go.RowKit

set_option maxRecDepth 100000 in
set_option maxHeartbeats 4000000 in
theorem lengths_low (v : Value) (l : List Int) (m : Int) (w : World) (hv : RdI .i64 w v l) (hn : l.length ≤ 1000000) (hm : ¬ 1 ≤ m) (hE : askE l false ≠ 0) :
    Calls Try.prog 14 #[v, .int .i64 m] w (ListEnd w [] (askE l false)) := by
  have hmf : ∀ (fn : Fn) (first cap : Array Value) (w : World), (Instr.makeFunc fn first cap).run Try.prog w = .ok (.func fn first cap) w := fun _ _ _ _ => rfl
  have HV := Lib.hid hv
  obtain ⟨A0, n, cp0, rfl, hnl, -⟩ := hv.form
  obtain ⟨i0, hi, hz0, hz1, hz2⟩ := info_parts Try.infoPack
  obtain ⟨j0, hj, yz0, yz1, yz2⟩ := info_parts Try.infoInt
  have HN := Lib.hid hnl
  have d1 : decide ((1 : Int) ≤ m) = false := decide_eq_false hm
  have HE := Lib.hid hE
  have hn' : n ≤ 1000000 := by omega
  clear hv hnl hE
  go_enter_defers Try.func14, Try.ntmps14
  go_wp2_with fail
  have k0 : Keeps w (((w.alloc (.cells #[.slice none 0 0] 22)).alloc (.cells #[.int .i64 0] 26)).alloc (.cells #[.bool false] 4)) [] := (((Keeps.refl w []).alloc _).alloc _).alloc _
  have bo := ((Blk.new w #[.slice none 0 0] 22).alloc (.cells #[.int .i64 0] 26)).alloc (.cells #[.bool false] 4)
  have be := (Blk.new (w.alloc (.cells #[.slice none 0 0] 22)) #[.int .i64 0] 26).alloc (.cells #[.bool false] 4)
  have bf := Blk.new ((w.alloc (.cells #[.slice none 0 0] 22)).alloc (.cells #[.int .i64 0] 26)) #[.bool false] 4
  simp only [World.size_alloc] at be bf
  refine (asked_any false _ _ l _ (HV.out.keeps k0) (contains1_any _ false _ bf) (by omega)).mono ?_
  rintro e w1 ⟨-, h1, k1⟩
  obtain rfl := h1 HE.out
  replace bo := bo.keeps k1 (by simp)
  replace be := be.keeps k1 (by simp)
  replace k0 := k0.then k1
  clear bf k1 h1
  obtain ⟨e0, fe⟩ := be.one
  obtain ⟨o0, fo⟩ := bo.one
  go_wp2_with fail
  refine leaves_cons (f := 33) (args := #[.pointer (some ⟨w.heap.size + 1, 0, none⟩), .func (.func 34) #[] #[.pointer (some ⟨w.heap.size, 0, none⟩)]]) (by simp) (by simp [go_sem]) ?_
  refine (caught_lengths _ _ (askE l false) _ _ _ _ [] w1 be bo (by omega)).mono ?_
  rintro e u' w'' ⟨rfl, rfl, rfl⟩
  refine ⟨.tuple #[.slice none 0 0, .int .i64 ((askE l false))], by simp only [results, Try.results14]; go_simp, ?_⟩
  refine ⟨_, rfl, RdI.nil, (fun ad n c h => by cases h), ?_⟩
  exact Keeps.setCell' (.inl (by dsimp only; omega)) (Keeps.setCell' (.inl (by dsimp only; omega)) k0)

set_option maxRecDepth 100000 in
set_option maxHeartbeats 4000000 in
theorem lengths_high (v : Value) (l : List Int) (m : Int) (w : World) (hv : RdI .i64 w v l) (hn : l.length ≤ 1000000) (hm : 1 ≤ m) (hm2 : ¬ m ≤ 11) (hE : askE l false ≠ 0) :
    Calls Try.prog 14 #[v, .int .i64 m] w (ListEnd w [] (askE l false)) := by
  have hmf : ∀ (fn : Fn) (first cap : Array Value) (w : World), (Instr.makeFunc fn first cap).run Try.prog w = .ok (.func fn first cap) w := fun _ _ _ _ => rfl
  have HV := Lib.hid hv
  obtain ⟨A0, n, cp0, rfl, hnl, -⟩ := hv.form
  obtain ⟨i0, hi, hz0, hz1, hz2⟩ := info_parts Try.infoPack
  obtain ⟨j0, hj, yz0, yz1, yz2⟩ := info_parts Try.infoInt
  have HN := Lib.hid hnl
  have d1 : decide ((1 : Int) ≤ m) = true := decide_eq_true hm
  have d2 : decide (m ≤ 11) = false := decide_eq_false hm2
  have HE := Lib.hid hE
  have hn' : n ≤ 1000000 := by omega
  clear hv hnl hE
  go_enter_defers Try.func14, Try.ntmps14
  go_wp2_with fail
  have k0 : Keeps w (((w.alloc (.cells #[.slice none 0 0] 22)).alloc (.cells #[.int .i64 0] 26)).alloc (.cells #[.bool false] 4)) [] := (((Keeps.refl w []).alloc _).alloc _).alloc _
  have bo := ((Blk.new w #[.slice none 0 0] 22).alloc (.cells #[.int .i64 0] 26)).alloc (.cells #[.bool false] 4)
  have be := (Blk.new (w.alloc (.cells #[.slice none 0 0] 22)) #[.int .i64 0] 26).alloc (.cells #[.bool false] 4)
  have bf := Blk.new ((w.alloc (.cells #[.slice none 0 0] 22)).alloc (.cells #[.int .i64 0] 26)) #[.bool false] 4
  simp only [World.size_alloc] at be bf
  refine (asked_any false _ _ l _ (HV.out.keeps k0) (contains1_any _ false _ bf) (by omega)).mono ?_
  rintro e w1 ⟨-, h1, k1⟩
  obtain rfl := h1 HE.out
  replace bo := bo.keeps k1 (by simp)
  replace be := be.keeps k1 (by simp)
  replace k0 := k0.then k1
  clear bf k1 h1
  obtain ⟨e0, fe⟩ := be.one
  obtain ⟨o0, fo⟩ := bo.one
  go_wp2_with fail
  refine leaves_cons (f := 33) (args := #[.pointer (some ⟨w.heap.size + 1, 0, none⟩), .func (.func 34) #[] #[.pointer (some ⟨w.heap.size, 0, none⟩)]]) (by simp) (by simp [go_sem]) ?_
  refine (caught_lengths _ _ (askE l false) _ _ _ _ [] w1 be bo (by omega)).mono ?_
  rintro e u' w'' ⟨rfl, rfl, rfl⟩
  refine ⟨.tuple #[.slice none 0 0, .int .i64 ((askE l false))], by simp only [results, Try.results14]; go_simp, ?_⟩
  refine ⟨_, rfl, RdI.nil, (fun ad n c h => by cases h), ?_⟩
  exact Keeps.setCell' (.inl (by dsimp only; omega)) (Keeps.setCell' (.inl (by dsimp only; omega)) k0)

set_option maxRecDepth 100000 in
set_option maxHeartbeats 4000000 in
theorem lengths_in (v : Value) (l : List Int) (m : Int) (w : World) (hv : RdI .i64 w v l) (hn : l.length ≤ 1000000) (hm : 1 ≤ m) (hm2 : m ≤ 11) (hE : askE l true ≠ 0) :
    Calls Try.prog 14 #[v, .int .i64 m] w (ListEnd w [] (askE l true)) := by
  have hmf : ∀ (fn : Fn) (first cap : Array Value) (w : World), (Instr.makeFunc fn first cap).run Try.prog w = .ok (.func fn first cap) w := fun _ _ _ _ => rfl
  have HV := Lib.hid hv
  obtain ⟨A0, n, cp0, rfl, hnl, -⟩ := hv.form
  obtain ⟨i0, hi, hz0, hz1, hz2⟩ := info_parts Try.infoPack
  obtain ⟨j0, hj, yz0, yz1, yz2⟩ := info_parts Try.infoInt
  have HN := Lib.hid hnl
  have d1 : decide ((1 : Int) ≤ m) = true := decide_eq_true hm
  have d2 : decide (m ≤ 11) = true := decide_eq_true hm2
  have HE := Lib.hid hE
  have hn' : n ≤ 1000000 := by omega
  clear hv hnl hE
  go_enter_defers Try.func14, Try.ntmps14
  go_wp2_with fail
  have k0 : Keeps w (((w.alloc (.cells #[.slice none 0 0] 22)).alloc (.cells #[.int .i64 0] 26)).alloc (.cells #[.bool true] 4)) [] := (((Keeps.refl w []).alloc _).alloc _).alloc _
  have bo := ((Blk.new w #[.slice none 0 0] 22).alloc (.cells #[.int .i64 0] 26)).alloc (.cells #[.bool true] 4)
  have be := (Blk.new (w.alloc (.cells #[.slice none 0 0] 22)) #[.int .i64 0] 26).alloc (.cells #[.bool true] 4)
  have bf := Blk.new ((w.alloc (.cells #[.slice none 0 0] 22)).alloc (.cells #[.int .i64 0] 26)) #[.bool true] 4
  simp only [World.size_alloc] at be bf
  refine (asked_any true _ _ l _ (HV.out.keeps k0) (contains1_any _ true _ bf) (by omega)).mono ?_
  rintro e w1 ⟨-, h1, k1⟩
  obtain rfl := h1 HE.out
  replace bo := bo.keeps k1 (by simp)
  replace be := be.keeps k1 (by simp)
  replace k0 := k0.then k1
  clear bf k1 h1
  obtain ⟨e0, fe⟩ := be.one
  obtain ⟨o0, fo⟩ := bo.one
  go_wp2_with fail
  refine leaves_cons (f := 33) (args := #[.pointer (some ⟨w.heap.size + 1, 0, none⟩), .func (.func 34) #[] #[.pointer (some ⟨w.heap.size, 0, none⟩)]]) (by simp) (by simp [go_sem]) ?_
  refine (caught_lengths _ _ (askE l true) _ _ _ _ [] w1 be bo (by omega)).mono ?_
  rintro e u' w'' ⟨rfl, rfl, rfl⟩
  refine ⟨.tuple #[.slice none 0 0, .int .i64 ((askE l true))], by simp only [results, Try.results14]; go_simp, ?_⟩
  refine ⟨_, rfl, RdI.nil, (fun ad n c h => by cases h), ?_⟩
  exact Keeps.setCell' (.inl (by dsimp only; omega)) (Keeps.setCell' (.inl (by dsimp only; omega)) k0)

set_option maxRecDepth 100000 in
set_option maxHeartbeats 4000000 in
theorem lengths_must (v : Value) (l : List Int) (m : Nat) (w : World) (hv : RdI .i64 w v l) (hr : rightL l = true) (hm1 : 1 ≤ m) (hm2 : m ≤ 11) (hu1 : 1 < (usedL l).length) (hu2 : ¬ (usedL l).length ≤ 2 ^ m) :
    Calls Try.prog 14 #[v, .int .i64 m] w (ListEnd w [] 18) := by
  obtain ⟨SH, hSH⟩ : ∃ S : Shun, S.g = w.heap.size := ⟨⟨_⟩, rfl⟩
  have hl256 := (rightL_iff.1 hr).1
  have HR := Lib.hid hr
  have hmf : ∀ (fn : Fn) (first cap : Array Value) (w : World), (Instr.makeFunc fn first cap).run Try.prog w = .ok (.func fn first cap) w := fun _ _ _ _ => rfl
  have HV := Lib.hid hv
  obtain ⟨A0, n, cp0, rfl, hnl, -⟩ := hv.form
  obtain ⟨i0, hi, hz0, hz1, hz2⟩ := info_parts Try.infoPack
  obtain ⟨j0, hj, yz0, yz1, yz2⟩ := info_parts Try.infoInt
  have HN := Lib.hid hnl
  have hul := usedL_len l
  have hA : Hid (askE l true = 0) := by show _ = _; simp [askE, hr, hu1]
  have HFL : Hid ((firstP l).length = (usedL l).length) := firstP_len l
  have d1 : decide ((1 : Int) ≤ (m : Int)) = true := decide_eq_true (by omega)
  have d2 : decide ((m : Int) ≤ 11) = true := decide_eq_true (by omega)
  have hm11 : (1 : Int) ≤ (m : Int) := by omega
  have hm12 : (m : Int) ≤ 11 := by omega
  obtain ⟨N, hN⟩ : ∃ N, N = (usedL l).length := ⟨_, rfl⟩
  rw [← hN] at hu1 hu2 hul HFL
  have hN256 : N ≤ 256 := by omega
  have hn256 : n ≤ 256 := by omega
  have HU2 := Lib.hid hu2
  clear hv hr hnl hN hu2
  go_enter_defers Try.func14, Try.ntmps14
  go_wp2_with fail
  have k0 : Keeps w (((w.alloc (.cells #[.slice none 0 0] 22)).alloc (.cells #[.int .i64 0] 26)).alloc (.cells #[.bool true] 4)) [] := (((Keeps.refl w []).alloc _).alloc _).alloc _
  have bo := ((Blk.new w #[.slice none 0 0] 22).alloc (.cells #[.int .i64 0] 26)).alloc (.cells #[.bool true] 4)
  have be := (Blk.new (w.alloc (.cells #[.slice none 0 0] 22)) #[.int .i64 0] 26).alloc (.cells #[.bool true] 4)
  have bf := Blk.new ((w.alloc (.cells #[.slice none 0 0] 22)).alloc (.cells #[.int .i64 0] 26)) #[.bool true] 4
  simp only [World.size_alloc] at be bf
  refine (asked_any true _ _ l _ (HV.out.keeps k0) (contains1_any _ true _ bf) (by omega)).mono ?_
  rintro e w1 ⟨h1, -, k1⟩
  obtain rfl := h1 hA.out
  replace bo := bo.keeps k1 (by simp)
  replace be := be.keeps k1 (by simp)
  replace k0 := k0.then k1
  have bl := Blk.new w1 #[.slice A0 n cp0] 59
  obtain ⟨c0, -⟩ := bl.one
  clear bf k1 h1
  go_wp2_with fail
  refine (first_any _ l _ ((HV.out.keeps k0).keeps ((Keeps.refl w1 []).alloc _)) HR.out (by rw [World.size_alloc]; have := bo.lt; omega)).mono ?_
  rintro e w2 ⟨v2, rfl, o2, k2⟩
  obtain ⟨a2, c2, rfl⟩ := o2.form
  replace bo := (bo.alloc (.cells #[.slice A0 n cp0] 59)).keeps k2 (by simp)
  replace be := (be.alloc (.cells #[.slice A0 n cp0] 59)).keeps k2 (by simp)
  replace k0 := (k0.alloc (.cells #[.slice A0 n cp0] 59)).then k2
  clear o2 k2 bl c0
  rw [HFL.out]
  obtain ⟨hpw, hpb⟩ := wrap_powK m (by omega)
  have HU3 : ¬ (N : Int) ≤ ((2 ^ m : Nat) : Int) := fun h => HU2.out (Int.ofNat_le.1 h)
  generalize 2 ^ m = PW at hpw HU3 hpb
  have hd3 : decide (N ≤ PW) = false := decide_eq_false (fun h => HU3 (Int.ofNat_le.2 h))
  go_wp2_with fail
  refine (must_no 18 w2).mono ?_
  rintro e w3 ⟨rfl, rfl⟩
  clear hpw HU3 hpb hd3
  obtain ⟨e0, fe⟩ := be.one
  obtain ⟨o0, fo⟩ := bo.one
  go_wp2_with fail
  refine leaves_cons (f := 33) (args := #[.pointer (some ⟨w.heap.size + 1, 0, none⟩), .func (.func 34) #[] #[.pointer (some ⟨w.heap.size, 0, none⟩)]]) (by simp) (by simp [go_sem]) ?_
  refine (caught_lengths _ _ 18 _ _ _ _ [] w2 be bo (by omega)).mono ?_
  rintro e u' w'' ⟨rfl, rfl, rfl⟩
  refine ⟨.tuple #[.slice none 0 0, .int .i64 (18)], by simp only [results, Try.results14]; go_simp, ?_⟩
  refine ⟨_, rfl, RdI.nil, (fun ad n c h => by cases h), ?_⟩
  exact Keeps.setCell' (.inl (by dsimp only; omega)) (Keeps.setCell' (.inl (by dsimp only; omega)) k0)

/-- Lengths, whatever it is asked. -/
theorem lengths_any (v : Value) (l : List Int) (m : Int) (w : World) (hv : RdI .i64 w v l) (hn : l.length ≤ 1000000) :
    Calls Try.prog 14 #[v, .int .i64 m] w (ListEnd w (if limErr l m = 0 then limOut l m else []) (limErr l m)) := by
  by_cases hE : askE l (decide (1 ≤ m) && decide (m ≤ 11)) = 0
  · have hr : rightL l = true ∧ (1 ≤ m ∧ m ≤ 11) ∧ 1 < (usedL l).length := by
      unfold askE at hE
      split at hE
      · rename_i h
        split at hE
        · rename_i h2
          simp at h
          exact ⟨h.1, h.2, h2⟩
        · simp at hE
      · simp at hE
    obtain ⟨hr, ⟨hm1, hm2⟩, hu⟩ := hr
    obtain ⟨k, rfl⟩ : ∃ k : Nat, m = (k : Int) := ⟨m.toNat, by omega⟩
    have e1 : limErr l (k : Int) = if (usedL l).length ≤ 2 ^ k then 0 else 18 := by
      simp [limErr, hr, hm1, hm2, hu]
    by_cases hp : (usedL l).length ≤ 2 ^ k
    · rw [e1, if_pos hp, if_pos rfl]
      have := lengths_yes v l k w hv hr (by omega) (by omega) hu hp
      rw [limOut, Int.toNat_natCast]
      exact this
    · rw [e1, if_neg hp, if_neg (by decide)]
      exact lengths_must v l k w hv hr (by omega) (by omega) hu hp
  · have e1 : limErr l m = askE l (decide (1 ≤ m) && decide (m ≤ 11)) := by
      unfold limErr askE at *
      split
      · rename_i h
        rw [if_pos h] at hE
        split
        · rename_i h2
          rw [if_pos h2] at hE
          exact absurd rfl hE
        · rfl
      · rfl
    rw [e1, if_neg hE]
    by_cases h1 : 1 ≤ m
    · by_cases h2 : m ≤ 11
      · have e : (decide (1 ≤ m) && decide (m ≤ 11)) = true := by simp [h1, h2]
        rw [e] at hE ⊢
        exact lengths_in v l m w hv hn h1 h2 hE
      · have e : (decide (1 ≤ m) && decide (m ≤ 11)) = false := by simp [h2]
        rw [e] at hE ⊢
        exact lengths_high v l m w hv hn h1 h2 hE
    · have e : (decide (1 ≤ m) && decide (m ≤ 11)) = false := by simp [h1]
      rw [e] at hE ⊢
      exact lengths_low v l m w hv hn h1 hE

end Go.Proofs.Ythjbngnihcmedaa
