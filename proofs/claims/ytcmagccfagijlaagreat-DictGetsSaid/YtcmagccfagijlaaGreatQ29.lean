/-
  Walks over package weights: read, reader.number, reader.bytes, the bound method Byte. (Printed by mkVL.py.)
  Walks over package weights: reader.halves.
-/
import Derived.Test.YtcmagccfagijlaaGreatQ11
import Derived.Test.YtcmagccfagijlaaGreatQ5
import Derived.Test.YtcmagccfagijlaaGreatQ26
namespace Go.Proofs.YtcmagccfagijlaaGreat
section
set_option linter.unusedVariables false
set_option linter.unusedSimpArgs false
set_option linter.unusedSectionVars false
open Go.RowKit

/-- A read that panics with the error n, unless n is 0. -/
def RdEnd (w : World) (p : Nat) (v : Value) (B : List Int) (x : Value) (n : Int) (k' : Nat) (e : Ending) (w' : World) : Prop :=
  (n = 0 → e = .returned x) ∧ (n ≠ 0 → e = .panicked [raisedBy n false]) ∧ Cur w' p v B k' ∧ Keeps w w' [p]
def RdEndB (w : World) (p : Nat) (v : Value) (B : List Int) (L : List Int) (n : Int) (k' : Nat) (e : Ending) (w' : World) : Prop :=
  (n = 0 → ∃ r, e = .returned r ∧ RdI .u8 w' r L ∧ Fresh w.heap.size r) ∧ (n ≠ 0 → e = .panicked [raisedBy n false]) ∧ Cur w' p v B k' ∧ Keeps w w' [p]

set_option maxRecDepth 100000 in
set_option maxHeartbeats 2000000 in
theorem wreadInt_any (p k' : Nat) (v : Value) (B : List Int) (w : World) (fs lb : Array Value) (x : Int) (n : Int)
    (hg : Calls Tryz.prog 158 (lb) w (CurEnd w p v B (.int .i64 x) n k')) :
    Calls Tryz.prog 157 #[.func (.func 158) #[] lb] w (RdEnd w p v B (.int .i64 x) n k') := by
  have HG := Lib.hid hg
  clear hg
  by_cases hn : n = 0
  · subst hn
    go_enter Tryz.func157, Tryz.ntmps157
    go_wp2_with (first | (go_at_call 158; refine HG.out.mono ?_; rintro e w1 ⟨rfl, cur1, k1⟩) | (go_at_call 143; refine (wmust_yes _ _ (Blk.newA rfl)).mono ?_; rintro e w5 ⟨rfl, rfl⟩))
    go_ret
    exact ⟨fun _ => rfl, (fun h => absurd rfl h), cur1.keeps ((Keeps.refl _ _).alloc _), k1.alloc _⟩
  · go_enter Tryz.func157, Tryz.ntmps157
    go_wp2_with (first | (go_at_call 158; refine HG.out.mono ?_; rintro e w1 ⟨rfl, cur1, k1⟩) | (go_at_call 143; refine (wmust_no n hn _ _ (Blk.newA rfl)).mono ?_; rintro e w5 ⟨rfl, rfl⟩))
    exact ⟨rfl, (fun h => absurd h hn), fun _ => rfl, cur1.keeps ((Keeps.refl _ _).alloc _), k1.alloc _⟩

set_option maxRecDepth 100000 in
set_option maxHeartbeats 2000000 in
theorem wreadBytes_any (p k' : Nat) (v : Value) (B : List Int) (w : World) (fs lb : Array Value) (L : List Int) (n : Int)
    (hg : Calls Tryz.prog 186 (lb) w (CurB w p v B L n k')) :
    Calls Tryz.prog 185 #[.func (.func 186) #[] lb] w (RdEndB w p v B L n k') := by
  have HG := Lib.hid hg
  clear hg
  by_cases hn : n = 0
  · subst hn
    go_enter Tryz.func185, Tryz.ntmps185
    go_wp2_with (first | (go_at_call 186; refine HG.out.mono ?_; rintro e w1 ⟨r1, rfl, rd1, fr1, cur1, k1⟩) | (go_at_call 143; refine (wmust_yes _ _ (Blk.newA rfl)).mono ?_; rintro e w5 ⟨rfl, rfl⟩))
    go_ret
    exact ⟨fun _ => ⟨_, rfl, rd1.keeps ((Keeps.refl _ _).alloc _), fr1⟩, (fun h => absurd rfl h), cur1.keeps ((Keeps.refl _ _).alloc _), k1.alloc _⟩
  · go_enter Tryz.func185, Tryz.ntmps185
    go_wp2_with (first | (go_at_call 186; refine HG.out.mono ?_; rintro e w1 ⟨r1, rfl, rd1, fr1, cur1, k1⟩) | (go_at_call 143; refine (wmust_no n hn _ _ (Blk.newA rfl)).mono ?_; rintro e w5 ⟨rfl, rfl⟩))
    exact ⟨rfl, (fun h => absurd h hn), fun _ => rfl, cur1.keeps ((Keeps.refl _ _).alloc _), k1.alloc _⟩

set_option maxRecDepth 100000 in
set_option maxHeartbeats 2000000 in
theorem wreadByte_any (p k' : Nat) (v : Value) (B : List Int) (w : World) (fs lb : Array Value) (x : Int) (n : Int)
    (hg : Calls Tryz.prog 129 (fs) w (CurEnd w p v B (.int .u8 x) n k')) :
    Calls Tryz.prog 128 #[.func (.func 129) fs #[]] w (RdEnd w p v B (.int .u8 x) n k') := by
  have HG := Lib.hid hg
  clear hg
  by_cases hn : n = 0
  · subst hn
    go_enter Tryz.func128, Tryz.ntmps128
    go_wp2_with (first | (go_at_call 129; refine HG.out.mono ?_; rintro e w1 ⟨rfl, cur1, k1⟩) | (go_at_call 143; refine (wmust_yes _ _ (Blk.newA rfl)).mono ?_; rintro e w5 ⟨rfl, rfl⟩))
    go_ret
    exact ⟨fun _ => rfl, (fun h => absurd rfl h), cur1.keeps ((Keeps.refl _ _).alloc _), k1.alloc _⟩
  · go_enter Tryz.func128, Tryz.ntmps128
    go_wp2_with (first | (go_at_call 129; refine HG.out.mono ?_; rintro e w1 ⟨rfl, cur1, k1⟩) | (go_at_call 143; refine (wmust_no n hn _ _ (Blk.newA rfl)).mono ?_; rintro e w5 ⟨rfl, rfl⟩))
    exact ⟨rfl, (fun h => absurd h hn), fun _ => rfl, cur1.keeps ((Keeps.refl _ _).alloc _), k1.alloc _⟩

set_option maxRecDepth 100000 in
theorem rnumber1_any (p k hr hm M : Nat)  (v : Value) (B : List Int) (w : World) (hc : Cur w p v B k) (hb : Blk w hr #[.pointer (some ⟨p, 0, none⟩)] 164) (hq : Blk w hm #[.int .i64 (M : Int)] 3) (hM : M < 4611686018427387904) :
    Calls Tryz.prog 158 #[.pointer (some ⟨hr, 0, none⟩), .pointer (some ⟨hm, 0, none⟩)] w (CurEnd w p v B (.int .i64 (numX B k M : Int)) (numE B k M) (numK B k M)) := by
  have H := Lib.hid (number_any p k M v B w hc hM)
  obtain ⟨b0, -⟩ := hb.one
  obtain ⟨m0, -⟩ := hq.one
  clear hc hb hq
  generalize numX B k M = X at *
  generalize numE B k M = E at *
  generalize numK B k M = K at *
  go_enter Tryz.func158, Tryz.ntmps158
  go_wp2_with (refine H.out.mono ?_; rintro e w1 ⟨rfl, cur1, k1⟩)
  exact bodyPost_ret (v := .tuple #[.int .i64 (X : Int), .int .i64 E]) (by simp [results, Tryz.results158]) rfl ⟨rfl, cur1, k1⟩

set_option maxRecDepth 100000 in
theorem rnumber_any (p k M : Nat)  (v : Value) (B : List Int) (w : World) (hc : Cur w p v B k) (hM : M < 4611686018427387904) :
    Calls Tryz.prog 124 #[.agg #[.pointer (some ⟨p, 0, none⟩)], .int .i64 (M : Int)] w (RdEnd w p v B (.int .i64 (numX B k M : Int)) (numE B k M) (numK B k M)) := by
  have k0 : Keeps w ((w.alloc (.cells #[.pointer (some ⟨p, 0, none⟩)] 164)).alloc (.cells #[.int .i64 (M : Int)] 3)) [] := ((Keeps.refl w []).alloc _).alloc _
  have b0 := (Blk.new w #[.pointer (some ⟨p, 0, none⟩)] 164).alloc (.cells #[.int .i64 (M : Int)] 3)
  have b1 := Blk.new (w.alloc (.cells #[.pointer (some ⟨p, 0, none⟩)] 164)) #[.int .i64 (M : Int)] 3
  simp only [World.size_alloc] at b1
  have H := Lib.hid (wreadInt_any p _ v B _ #[] _ _ _ (rnumber1_any p k w.heap.size (w.heap.size + 1) M v B _ (hc.keeps k0) b0 b1 hM))
  have hs0 := k0.size
  clear hc b0 b1
  generalize numX B k M = X at *
  generalize numE B k M = E at *
  generalize numK B k M = K at *
  by_cases hE : E = 0
  · subst hE
    go_enter Tryz.func124, Tryz.ntmps124
    go_wp2_with (refine H.out.mono ?_; rintro e w1 ⟨he, -, cur1, k1⟩; obtain rfl := he rfl)
    go_ret
    exact ⟨fun _ => rfl, (fun h => absurd rfl h), cur1, (k0.mono (by simp)).trans k1 (fun j hj _ => hj)⟩
  · go_enter Tryz.func124, Tryz.ntmps124
    go_wp2_with (refine H.out.mono ?_; rintro e w1 ⟨-, he, cur1, k1⟩; obtain rfl := he hE)
    exact ⟨rfl, (fun h => absurd h hE), fun _ => rfl, cur1, (k0.mono (by simp)).trans k1 (fun j hj _ => hj)⟩

set_option maxRecDepth 100000 in
theorem rbytes1_any (p k hr hm  : Nat) (m : Int) (v : Value) (B : List Int) (w : World) (hc : Cur w p v B k) (hb : Blk w hr #[.pointer (some ⟨p, 0, none⟩)] 164) (hq : Blk w hm #[.int .i64 m] 3) :
    Calls Tryz.prog 186 #[.pointer (some ⟨hr, 0, none⟩), .pointer (some ⟨hm, 0, none⟩)] w (CurB w p v B (bytesX B k m) (bytesE B k m) (bytesK B k m)) := by
  have H := Lib.hid (bytes_any p k m v B w hc)
  obtain ⟨b0, -⟩ := hb.one
  obtain ⟨m0, -⟩ := hq.one
  clear hc hb hq
  generalize bytesX B k m = X at *
  generalize bytesE B k m = E at *
  generalize bytesK B k m = K at *
  go_enter Tryz.func186, Tryz.ntmps186
  go_wp2_with (refine H.out.mono ?_; rintro e w1 ⟨r1, rfl, rd1, fr1, cur1, k1⟩)
  exact bodyPost_ret (v := .tuple #[r1, .int .i64 E]) (by simp [results, Tryz.results186]) rfl ⟨r1, rfl, rd1, fr1, cur1, k1⟩

set_option maxRecDepth 100000 in
theorem rbytes_any (p k  : Nat) (m : Int) (v : Value) (B : List Int) (w : World) (hc : Cur w p v B k) :
    Calls Tryz.prog 159 #[.agg #[.pointer (some ⟨p, 0, none⟩)], .int .i64 m] w (RdEndB w p v B (bytesX B k m) (bytesE B k m) (bytesK B k m)) := by
  have k0 : Keeps w ((w.alloc (.cells #[.pointer (some ⟨p, 0, none⟩)] 164)).alloc (.cells #[.int .i64 m] 3)) [] := ((Keeps.refl w []).alloc _).alloc _
  have b0 := (Blk.new w #[.pointer (some ⟨p, 0, none⟩)] 164).alloc (.cells #[.int .i64 m] 3)
  have b1 := Blk.new (w.alloc (.cells #[.pointer (some ⟨p, 0, none⟩)] 164)) #[.int .i64 m] 3
  simp only [World.size_alloc] at b1
  have H := Lib.hid (wreadBytes_any p _ v B _ #[] _ _ _ (rbytes1_any p k w.heap.size (w.heap.size + 1) m v B _ (hc.keeps k0) b0 b1))
  have hs0 := k0.size
  clear hc b0 b1
  generalize bytesX B k m = X at *
  generalize bytesE B k m = E at *
  generalize bytesK B k m = K at *
  by_cases hE : E = 0
  · subst hE
    go_enter Tryz.func159, Tryz.ntmps159
    go_wp2_with (refine H.out.mono ?_; rintro e w1 ⟨he, -, cur1, k1⟩; obtain ⟨r1, rfl, rd1, fr1⟩ := he rfl)
    go_ret
    exact ⟨fun _ => ⟨r1, rfl, rd1, fr1.mono hs0⟩, (fun h => absurd rfl h), cur1, (k0.mono (by simp)).trans k1 (fun j hj _ => hj)⟩
  · go_enter Tryz.func159, Tryz.ntmps159
    go_wp2_with (refine H.out.mono ?_; rintro e w1 ⟨-, he, cur1, k1⟩; obtain rfl := he hE)
    exact ⟨rfl, (fun h => absurd h hE), fun _ => rfl, cur1, (k0.mono (by simp)).trans k1 (fun j hj _ => hj)⟩
end

section
set_option linter.unusedVariables false
set_option linter.unusedSimpArgs false
set_option linter.unusedSectionVars false
open Go.RowKit

/-- Two numbers out of each byte. -/
def nibX : List Int → List Int
  | [] => []
  | c :: l => c % 16 :: c / 16 :: nibX l
theorem nibX_append (a b : List Int) : nibX (a ++ b) = nibX a ++ nibX b := by
  induction a with
  | nil => rfl
  | cons c a ih => simp [nibX, ih]
theorem nibX_len (l : List Int) : (nibX l).length = 2 * l.length := by
  induction l with
  | nil => rfl
  | cons c l ih => simp only [nibX, List.length_cons, ih]; omega
theorem nibX_next {l : List Int} {k : Nat} {x : Int} (h : l[k]? = some x) : nibX (l.take (k + 1)) = nibX (l.take k) ++ [x % 16, x / 16] := by
  rw [take_next h, nibX_append]; rfl
theorem and15_all : ∀ x : Fin 256, bits BinOp.and IntKind.u8 ((x.val : Nat) : Int) 15 = ((x.val % 16 : Nat) : Int) := by decide +kernel
theorem and15 {x : Int} (h0 : 0 ≤ x) (h1 : x ≤ 255) : bits BinOp.and IntKind.u8 x 15 = x % 16 := by
  obtain ⟨a, rfl⟩ := Int.eq_ofNat_of_zero_le h0
  have h := and15_all ⟨a, by omega⟩
  simpa using h

/-- How halves ends: the numbers, or a panic. -/
def halvE (B : List Int) (k m : Nat) : Int := if bytesE B k (((m + 1) / 2 : Nat) : Int) ≠ 0 then bytesE B k (((m + 1) / 2 : Nat) : Int) else
  if ((nibX (bytesX B k (((m + 1) / 2 : Nat) : Int)))[m]?).getD 0 = 0 then 0 else 12
def halvX (B : List Int) (k m : Nat) : List Int := (nibX (bytesX B k (((m + 1) / 2 : Nat) : Int))).take m
def HalvEnd (w : World) (p : Nat) (v : Value) (B : List Int) (k m : Nat) (e : Ending) (w' : World) : Prop :=
  (halvE B k m = 0 → ∃ r, e = .returned r ∧ RdI .i64 w' r (halvX B k m) ∧ Fresh w.heap.size r) ∧ (halvE B k m ≠ 0 → e = .panicked [raisedBy (halvE B k m) false]) ∧ Cur w' p v B (bytesK B k (((m + 1) / 2 : Nat) : Int)) ∧ Keeps w w' [p]

theorem two_reads {w : World} {x y : Int} : RdI .i64 (w.alloc (.cells #[.int .i64 x, .int .i64 y] 3)) (.slice (some ⟨w.heap.size, 0, none⟩) 2 2) [x, y] := by
  refine ⟨_, _, _, rfl, rfl, (fun h => by cases h), fun _ => ⟨Nat.le_refl _, w.heap.size, 0, rfl, by simp, fun i z hz => ?_⟩⟩
  have hb := Blk.new w #[.int .i64 x, .int .i64 y] 3
  rw [Nat.zero_add, hb.cell]
  rcases i with _ | _ | i
  · simp at hz; subst hz; rfl
  · simp at hz; subst hz; rfl
  · simp at hz

set_option maxRecDepth 100000 in
set_option maxHeartbeats 4000000 in
theorem rhalves_short (p k m : Nat) (v : Value) (B : List Int) (w : World) (hc : Cur w p v B k) (hm : m ≤ 1000) (hE : bytesE B k (((m + 1) / 2 : Nat) : Int) ≠ 0) :
    Calls Tryz.prog 126 #[.agg #[.pointer (some ⟨p, 0, none⟩)], .int .i64 (m : Int)] w (HalvEnd w p v B k m) := by
  have h0 : halvE B k m = bytesE B k (((m + 1) / 2 : Nat) : Int) := if_pos hE
  have hend : Hid (∀ e w', e = .panicked [raisedBy (bytesE B k (((m + 1) / 2 : Nat) : Int)) false] → Cur w' p v B (bytesK B k (((m + 1) / 2 : Nat) : Int)) → Keeps w w' [p] → HalvEnd w p v B k m e w') := fun e w' h1 h2 h3 => ⟨(fun h => absurd (h0 ▸ h) hE), (fun _ => by rw [h0]; exact h1), h2, h3⟩
  have k0 : Keeps w (w.alloc (.cells #[.agg #[.pointer (some ⟨p, 0, none⟩)]] 164)) [] := (Keeps.refl w []).alloc _
  have k0' : Keeps w (w.alloc (.cells #[.pointer (some ⟨p, 0, none⟩)] 164)) [] := (Keeps.refl w []).alloc _
  have H := Lib.hid (rbytes_any p k (((m + 1) / 2 : Nat) : Int) v B _ (hc.keeps k0'))
  obtain ⟨q, hq⟩ : ∃ q, q = (m + 1) / 2 := ⟨_, rfl⟩
  have hqi : ((m : Int) + 1) / 2 = (q : Int) := by omega
  rw [← hq] at H hE hend
  clear hc hq h0
  go_enter Tryz.func126, Tryz.ntmps126
  go_wp2_with (refine H.out.mono ?_; rintro e w1 ⟨-, he, cur1, k1⟩; obtain rfl := he hE)
  exact ⟨rfl, hend.out _ _ rfl cur1 ((k0'.mono (by simp)).trans k1 (fun j hj _ => hj))⟩

theorem bytesX_len {B : List Int} {k q : Nat} (hk : k ≤ B.length) (h : bytesE B k (q : Int) = 0) : (bytesX B k (q : Int)).length = q := by
  have h1 : ¬ (B.length : Int) - (k : Int) < (q : Int) := by
    intro hc
    unfold bytesE at h
    rw [if_neg (by omega), if_pos hc] at h
    cases h
  rw [bytesX, if_pos h, Int.toNat_natCast]
  simp
  omega
theorem bytesX_mem {B : List Int} {k : Nat} {m x : Int} (h : x ∈ bytesX B k m) : x ∈ B := by
  unfold bytesX at h
  split at h
  · exact List.mem_of_mem_drop (List.mem_of_mem_take h)
  · cases h

set_option maxRecDepth 100000 in
set_option maxHeartbeats 4000000 in
theorem rhalves_ok (p k m : Nat) (v : Value) (B : List Int) (w : World) (hc : Cur w p v B k) (hm0 : 0 < m) (hm : m ≤ 1000) (hE : bytesE B k (((m + 1) / 2 : Nat) : Int) = 0) :
    Calls Tryz.prog 126 #[.agg #[.pointer (some ⟨p, 0, none⟩)], .int .i64 (m : Int)] w (HalvEnd w p v B k m) := by
  obtain ⟨i0, hi, hz0, hz1, hz2⟩ := info_parts Tryz.infoInt
  have k0' : Keeps w (w.alloc (.cells #[.pointer (some ⟨p, 0, none⟩)] 164)) [] := (Keeps.refl w []).alloc _
  have H := Lib.hid (rbytes_any p k (((m + 1) / 2 : Nat) : Int) v B _ (hc.keeps k0'))
  have hll := bytesX_len (q := (m + 1) / 2) hc.le hE
  have hxb : ∀ x ∈ bytesX B k (((m + 1) / 2 : Nat) : Int), 0 ≤ x ∧ x ≤ 255 := fun x hx => hc.byte x (bytesX_mem hx)
  obtain ⟨L, hL⟩ : ∃ L, L = bytesX B k (((m + 1) / 2 : Nat) : Int) := ⟨_, rfl⟩
  have hend : Hid (∀ e w', Cur w' p v B (bytesK B k (((m + 1) / 2 : Nat) : Int)) → Keeps w w' [p] → ((((nibX L)[m]?).getD 0 = 0 → ∃ r, e = .returned r ∧ RdI .i64 w' r ((nibX L).take m) ∧ Fresh w.heap.size r) ∧ (((nibX L)[m]?).getD 0 ≠ 0 → e = .panicked [raisedBy 12 false])) → HalvEnd w p v B k m e w') := fun e w' h1 h2 h3 => by
    have hx : halvX B k m = (nibX L).take m := by rw [hL]; rfl
    have he : halvE B k m = if ((nibX L)[m]?).getD 0 = 0 then 0 else 12 := by rw [hL]; unfold halvE; rw [if_neg (by rw [hE]; simp)]
    by_cases hz : ((nibX L)[m]?).getD 0 = 0
    · rw [if_pos hz] at he
      exact ⟨fun _ => by rw [hx]; exact h3.1 hz, (fun h => absurd he h), h1, h2⟩
    · rw [if_neg hz] at he
      exact ⟨(fun h => by rw [he] at h; cases h), (fun _ => by rw [he]; exact h3.2 hz), h1, h2⟩
  rw [hE, ← hL] at H
  rw [← hL] at hll hxb
  have HX := Lib.hid hxb
  have HLL := Lib.hid hll
  generalize bytesK B k (((m + 1) / 2 : Nat) : Int) = K at *
  obtain ⟨q, hq⟩ : ∃ q, q = (m + 1) / 2 := ⟨_, rfl⟩
  have hqi : ((m : Int) + 1) / 2 = (q : Int) := by omega
  rw [← hq] at H HLL
  have HQ := Lib.hid hq
  clear hc hE hL hxb hll hq
  go_enter Tryz.func126, Tryz.ntmps126
  go_wp2_with (go_at_call 159; go_loud (refine H.out.mono ?_; rintro e w1 ⟨he, -, cur1, k1⟩; obtain ⟨r1, rfl, rd1, fr1⟩ := he rfl; obtain ⟨a1, n1, c1, rfl, -, -⟩ := rd1.form))
  have hn1 : n1 = q := by have := rd1.len; have := HLL.out; omega
  subst hn1
  have kk1 := (k0'.mono (S' := [p]) (by simp)).trans k1 (fun j hj _ => hj)
  have hs1 := kk1.size
  have RD := Lib.hid rd1
  have CUR := Lib.hid cur1
  have FR := Lib.hid (fr1.mono (b' := w.heap.size) (by simp))
  clear rd1 cur1 fr1 H
  go_loopw [4, 13] (fun o i wr => ∃ (t : Nat) (a : Option Addr) (c : Nat), t ≤ n1 ∧ i = .int .i64 t ∧ o = .slice a (2 * t) c ∧ wr.ownsRow w1.heap.size 3 1 (.slice a (2 * t) c) (2 * t) ((nibX (L.take t)).map (.int .i64)) ∧ Keeps w1 wr []) (fun _ i _ => n1 - (intOf i).toNat)
  case atStart => exact ⟨0, none, 0, Nat.zero_le _, rfl, rfl, by simpa [nibX] using World.ownsRow_nil _ _ _ _, Keeps.refl _ _⟩
  case round =>
    obtain ⟨t, a, c, ht, rfl, rfl, own, kk⟩ := hrel
    by_cases hlt : t < n1
    · obtain ⟨x, hx⟩ : ∃ x, L[t]? = some x := ⟨_, List.getElem?_eq_getElem (by have := HLL.out; omega)⟩
      obtain ⟨b, o, rfl, hb, hcx⟩ := RD.out.at hx
      have hcx' := (kk.cell (p := ⟨b, o + t, none⟩) hb (by simp)).trans hcx
      have hcap := RD.out.cap
      have hxb := HX.out x (List.mem_of_getElem? hx)
      have htn : (t : Int) < (n1 : Int) := by omega
      have hand := and15 hxb.1 hxb.2
      have hs := kk.size
      have OW := Lib.hid (own_keeps own ((Keeps.refl wr []).alloc (.cells #[.int .i64 (x % 16), .int .i64 (x / 16)] 3)))
      have TW := Lib.hid (two_reads (w := wr) (x := x % 16) (y := x / 16))
      have HN := Lib.hid (nibX_next hx)
      have hge := Lib.hid (fun g (hg : (Value.slice a (2 * t) c).ownBlock = some g) => (own.lt g hg).1)
      clear hx hcx own
      go_wp2_with (at_builtin; go_loud (refine wpList_appendI rfl _ _ 25 rfl w1.heap.size 3 i0 (.int .i64 0) 8 Tryz.underlying25 hi hz0 hz1 hz2 rfl (.slice a (2 * t) c) (2 * t) _ rfl OW.out _ rfl .i64 [x % 16, x / 16] TW.out (by simp; unfold maxLen; omega) (by simp; omega) (by simp; omega) ?_; intro v3 w3 own3 g3 _; obtain ⟨a3, c3, rfl⟩ := own_form own3))
      have HNX := HN.out
      refine ⟨⟨t + 1, a3, c3, by omega, rfl, rfl, ?_, keeps_row kk (((Keeps.refl wr _).alloc _).trans (Keeps.of_grown g3 (fun k hk => by rw [hk]; simp)) (fun j hj _ => hj)) hge.out⟩, by simp [intOf]; omega⟩
      rw [HNX, List.map_append]
      exact own3
    · obtain rfl : t = n1 := by omega
      have htake : L.take t = L := List.take_of_length_le (by have := HLL.out; omega)
      rw [htake] at own
      have hnl : (nibX L).length = 2 * t := by rw [nibX_len, HLL.out]
      have kf := kk1.trans kk (fun j hj _ => by cases hj)
      have CURF := Lib.hid (CUR.out.keeps kk)
      have RDX := Lib.hid (own_reads (l := nibX L) (by rw [hnl]; exact own))
      have htn : decide ((t : Int) < (t : Int)) = false := by simp
      obtain ⟨g, ha, hgb⟩ : ∃ g, a = some ⟨g, 0, none⟩ ∧ w1.heap.size ≤ g := by
        rcases own.2 with ⟨h1, h2⟩ | ⟨g, cp, cur, h1, h2, -⟩
        · have := HQ.out; omega
        · cases h1; exact ⟨g, rfl, h2⟩
      subst ha
      have hcap := RDX.out.cap
      have hcell : ∀ i x, (nibX L)[i]? = some x → wr.cell? ⟨g, i, none⟩ = some (.int .i64 x) := fun i x hx => by
        obtain ⟨b', o', he, -, hc'⟩ := RDX.out.at hx
        cases he
        rw [Nat.zero_add] at hc'
        exact hc'
      have HPC := Lib.hid (fun (hmt : 0 + m ≤ 2 * t) => RDX.out.piece (p := 0) (q := m) hmt m (Nat.le_refl _))
      have HEND := hend.out
      by_cases hev : m = 2 * t
      · have hnone : ((nibX L)[m]?).getD 0 = 0 := by rw [List.getElem?_eq_none (by omega)]; rfl
        have HP := Lib.hid (HPC.out (by omega))
        have HFIN := Lib.hid (fun e w' h1 h2 h3 => HEND e w' h1 h2 ⟨fun _ => h3, fun h => absurd hnone h⟩)
        have hcm : m ≤ c := by omega
        rw [← hev] at hcap ⊢
        clear hend HEND HPC RDX own hcell hnone hnl htake hev HLL HX HQ
        go_wp2_with (go_at_call 125; go_loud (refine (wis_yes (by simp) 12 _).mono ?_; rintro e w9 ⟨rfl, rfl⟩))
        go_ret
        refine HFIN.out _ _ CURF.out kf ⟨_, rfl, ?_, ?_⟩
        · simpa using HP.out
        · intro ad n' c' he
          simp at he
          obtain ⟨he, -, -⟩ := he
          rw [← he]
          dsimp only
          omega
      · have hod : 2 * t = m + 1 := by have := HQ.out; omega
        obtain ⟨y, hy⟩ : ∃ y, (nibX L)[m]? = some y := ⟨_, List.getElem?_eq_getElem (by omega)⟩
        have hcy := hcell m y hy
        have HP := Lib.hid (HPC.out (by omega))
        rw [hod] at hcap ⊢
        have hmm : ((m : Int) + 1 == (m : Int)) = false := by simp; omega
        have hmlt : (m : Int) < (m : Int) + 1 := by omega
        by_cases hy0 : y = 0
        · subst hy0
          have HFIN := Lib.hid (fun e w' h1 h2 h3 => HEND e w' h1 h2 ⟨fun _ => h3, fun h => absurd (by rw [hy]; rfl) h⟩)
          clear hend HEND HPC RDX own hcell hnl htake hod HLL HX HQ hy hev
          go_wp2_with (go_at_call 125; go_loud (refine (wis_yes (by simp) 12 _).mono ?_; rintro e w9 ⟨rfl, rfl⟩))
          go_ret
          refine HFIN.out _ _ CURF.out kf ⟨_, rfl, ?_, ?_⟩
          · simpa using HP.out
          · intro ad n' c' he
            simp at he
            obtain ⟨he, -, -⟩ := he
            rw [← he]
            dsimp only
            omega
        · have hy0' : (y == 0) = false := by simpa using hy0
          have HFIN := Lib.hid (fun e w' h1 h2 h3 => HEND e w' h1 h2 ⟨fun h => absurd h (by rw [hy]; exact hy0), fun _ => h3⟩)
          clear hend HEND HPC RDX own hcell hnl htake hod HLL HX HQ hy hev
          go_wp2_with (go_at_call 125; go_loud (refine (wis_no (by simp [hy0]) 12 _).mono ?_; rintro e w9 ⟨rfl, rfl⟩))
          exact ⟨rfl, HFIN.out _ _ CURF.out kf rfl⟩

theorem rhalves_any (p k m : Nat) (v : Value) (B : List Int) (w : World) (hc : Cur w p v B k) (hm0 : 0 < m) (hm : m ≤ 1000) :
    Calls Tryz.prog 126 #[.agg #[.pointer (some ⟨p, 0, none⟩)], .int .i64 (m : Int)] w (HalvEnd w p v B k m) := by
  by_cases hE : bytesE B k (((m + 1) / 2 : Nat) : Int) = 0
  · exact rhalves_ok p k m v B w hc hm0 hm hE
  · exact rhalves_short p k m v B w hc hm hE
end

end Go.Proofs.YtcmagccfagijlaaGreat
