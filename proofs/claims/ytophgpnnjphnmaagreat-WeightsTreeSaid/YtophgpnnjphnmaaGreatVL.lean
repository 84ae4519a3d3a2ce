/-
  Walks over package weights: read, reader.number, reader.bytes, the bound method Byte. (Printed by mkVL.py.)
-/
import Derived.Test.YtophgpnnjphnmaaGreatVK
import Derived.Test.YtophgpnnjphnmaaGreatCC
namespace Go.Proofs.YtophgpnnjphnmaaGreat
set_option linter.unusedVariables false
set_option linter.unusedSimpArgs false
set_option linter.unusedSectionVars false
open Go.RowKit

/-- A read that panics with the error n, unless n is 0. -/
def RdEnd (w : World) (p : Nat) (v : Value) (B : List Int) (x : Value) (n : Int) (k' : Nat) (e : Ending) (w' : World) : Prop :=
  (n = 0 → e = .returned x) ∧ (n ≠ 0 → e = .panicked [raisedBy n false]) ∧ Cur w' p v B k' ∧ Keeps w w' [p]
def RdEndB (w : World) (p : Nat) (v : Value) (B : List Int) (L : List Int) (n : Int) (k' : Nat) (e : Ending) (w' : World) : Prop :=
  (n = 0 → ∃ r, e = .returned r ∧ RdI .u8 w' r L ∧ Fresh w.heap.size r) ∧ (n ≠ 0 → e = .panicked [raisedBy n false]) ∧ Cur w' p v B k' ∧ Keeps w w' [p]

set_option maxRecDepth 100000 in
set_option maxHeartbeats 2000000 in
theorem wreadInt_any (p k' : Nat) (v : Value) (B : List Int) (w : World) (fs lb : Array Value) (x : Int) (n : Int)
    (hg : Calls Tryz.prog 73 (lb) w (CurEnd w p v B (.int .i64 x) n k')) :
    Calls Tryz.prog 72 #[.func (.func 73) #[] lb] w (RdEnd w p v B (.int .i64 x) n k') := by
  have HG := Lib.hid hg
  clear hg
  by_cases hn : n = 0
  · subst hn
    go_enter Tryz.func72, Tryz.ntmps72
    go_wp2_with (first | (go_at_call 73; refine HG.out.mono ?_; rintro e w1 ⟨rfl, cur1, k1⟩) | (go_at_call 63; refine (wmust_yes _ _ (Blk.newA rfl)).mono ?_; rintro e w5 ⟨rfl, rfl⟩))
    go_ret
    exact ⟨fun _ => rfl, (fun h => absurd rfl h), cur1.keeps ((Keeps.refl _ _).alloc _), k1.alloc _⟩
  · go_enter Tryz.func72, Tryz.ntmps72
    go_wp2_with (first | (go_at_call 73; refine HG.out.mono ?_; rintro e w1 ⟨rfl, cur1, k1⟩) | (go_at_call 63; refine (wmust_no n hn _ _ (Blk.newA rfl)).mono ?_; rintro e w5 ⟨rfl, rfl⟩))
    exact ⟨rfl, (fun h => absurd h hn), fun _ => rfl, cur1.keeps ((Keeps.refl _ _).alloc _), k1.alloc _⟩

set_option maxRecDepth 100000 in
set_option maxHeartbeats 2000000 in
theorem wreadBytes_any (p k' : Nat) (v : Value) (B : List Int) (w : World) (fs lb : Array Value) (L : List Int) (n : Int)
    (hg : Calls Tryz.prog 101 (lb) w (CurB w p v B L n k')) :
    Calls Tryz.prog 100 #[.func (.func 101) #[] lb] w (RdEndB w p v B L n k') := by
  have HG := Lib.hid hg
  clear hg
  by_cases hn : n = 0
  · subst hn
    go_enter Tryz.func100, Tryz.ntmps100
    go_wp2_with (first | (go_at_call 101; refine HG.out.mono ?_; rintro e w1 ⟨r1, rfl, rd1, fr1, cur1, k1⟩) | (go_at_call 63; refine (wmust_yes _ _ (Blk.newA rfl)).mono ?_; rintro e w5 ⟨rfl, rfl⟩))
    go_ret
    exact ⟨fun _ => ⟨_, rfl, rd1.keeps ((Keeps.refl _ _).alloc _), fr1⟩, (fun h => absurd rfl h), cur1.keeps ((Keeps.refl _ _).alloc _), k1.alloc _⟩
  · go_enter Tryz.func100, Tryz.ntmps100
    go_wp2_with (first | (go_at_call 101; refine HG.out.mono ?_; rintro e w1 ⟨r1, rfl, rd1, fr1, cur1, k1⟩) | (go_at_call 63; refine (wmust_no n hn _ _ (Blk.newA rfl)).mono ?_; rintro e w5 ⟨rfl, rfl⟩))
    exact ⟨rfl, (fun h => absurd h hn), fun _ => rfl, cur1.keeps ((Keeps.refl _ _).alloc _), k1.alloc _⟩

set_option maxRecDepth 100000 in
set_option maxHeartbeats 2000000 in
theorem wreadByte_any (p k' : Nat) (v : Value) (B : List Int) (w : World) (fs lb : Array Value) (x : Int) (n : Int)
    (hg : Calls Tryz.prog 58 (fs) w (CurEnd w p v B (.int .u8 x) n k')) :
    Calls Tryz.prog 57 #[.func (.func 58) fs #[]] w (RdEnd w p v B (.int .u8 x) n k') := by
  have HG := Lib.hid hg
  clear hg
  by_cases hn : n = 0
  · subst hn
    go_enter Tryz.func57, Tryz.ntmps57
    go_wp2_with (first | (go_at_call 58; refine HG.out.mono ?_; rintro e w1 ⟨rfl, cur1, k1⟩) | (go_at_call 63; refine (wmust_yes _ _ (Blk.newA rfl)).mono ?_; rintro e w5 ⟨rfl, rfl⟩))
    go_ret
    exact ⟨fun _ => rfl, (fun h => absurd rfl h), cur1.keeps ((Keeps.refl _ _).alloc _), k1.alloc _⟩
  · go_enter Tryz.func57, Tryz.ntmps57
    go_wp2_with (first | (go_at_call 58; refine HG.out.mono ?_; rintro e w1 ⟨rfl, cur1, k1⟩) | (go_at_call 63; refine (wmust_no n hn _ _ (Blk.newA rfl)).mono ?_; rintro e w5 ⟨rfl, rfl⟩))
    exact ⟨rfl, (fun h => absurd h hn), fun _ => rfl, cur1.keeps ((Keeps.refl _ _).alloc _), k1.alloc _⟩

set_option maxRecDepth 100000 in
theorem rnumber1_any (p k hr hm M : Nat)  (v : Value) (B : List Int) (w : World) (hc : Cur w p v B k) (hb : Blk w hr #[.pointer (some ⟨p, 0, none⟩)] 73) (hq : Blk w hm #[.int .i64 (M : Int)] 3) (hM : M < 4611686018427387904) :
    Calls Tryz.prog 73 #[.pointer (some ⟨hr, 0, none⟩), .pointer (some ⟨hm, 0, none⟩)] w (CurEnd w p v B (.int .i64 (numX B k M : Int)) (numE B k M) (numK B k M)) := by
  have H := Lib.hid (number_any p k M v B w hc hM)
  obtain ⟨b0, -⟩ := hb.one
  obtain ⟨m0, -⟩ := hq.one
  clear hc hb hq
  generalize numX B k M = X at *
  generalize numE B k M = E at *
  generalize numK B k M = K at *
  go_enter Tryz.func73, Tryz.ntmps73
  go_wp2_with (refine H.out.mono ?_; rintro e w1 ⟨rfl, cur1, k1⟩)
  exact bodyPost_ret (v := .tuple #[.int .i64 (X : Int), .int .i64 E]) (by simp [results, Tryz.results73]) rfl ⟨rfl, cur1, k1⟩

set_option maxRecDepth 100000 in
theorem rnumber_any (p k M : Nat)  (v : Value) (B : List Int) (w : World) (hc : Cur w p v B k) (hM : M < 4611686018427387904) :
    Calls Tryz.prog 53 #[.agg #[.pointer (some ⟨p, 0, none⟩)], .int .i64 (M : Int)] w (RdEnd w p v B (.int .i64 (numX B k M : Int)) (numE B k M) (numK B k M)) := by
  have k0 : Keeps w ((w.alloc (.cells #[.pointer (some ⟨p, 0, none⟩)] 73)).alloc (.cells #[.int .i64 (M : Int)] 3)) [] := ((Keeps.refl w []).alloc _).alloc _
  have b0 := (Blk.new w #[.pointer (some ⟨p, 0, none⟩)] 73).alloc (.cells #[.int .i64 (M : Int)] 3)
  have b1 := Blk.new (w.alloc (.cells #[.pointer (some ⟨p, 0, none⟩)] 73)) #[.int .i64 (M : Int)] 3
  simp only [World.size_alloc] at b1
  have H := Lib.hid (wreadInt_any p _ v B _ #[] _ _ _ (rnumber1_any p k w.heap.size (w.heap.size + 1) M v B _ (hc.keeps k0) b0 b1 hM))
  have hs0 := k0.size
  clear hc b0 b1
  generalize numX B k M = X at *
  generalize numE B k M = E at *
  generalize numK B k M = K at *
  by_cases hE : E = 0
  · subst hE
    go_enter Tryz.func53, Tryz.ntmps53
    go_wp2_with (refine H.out.mono ?_; rintro e w1 ⟨he, -, cur1, k1⟩; obtain rfl := he rfl)
    go_ret
    exact ⟨fun _ => rfl, (fun h => absurd rfl h), cur1, (k0.mono (by simp)).trans k1 (fun j hj _ => hj)⟩
  · go_enter Tryz.func53, Tryz.ntmps53
    go_wp2_with (refine H.out.mono ?_; rintro e w1 ⟨-, he, cur1, k1⟩; obtain rfl := he hE)
    exact ⟨rfl, (fun h => absurd h hE), fun _ => rfl, cur1, (k0.mono (by simp)).trans k1 (fun j hj _ => hj)⟩

set_option maxRecDepth 100000 in
theorem rbytes1_any (p k hr hm  : Nat) (m : Int) (v : Value) (B : List Int) (w : World) (hc : Cur w p v B k) (hb : Blk w hr #[.pointer (some ⟨p, 0, none⟩)] 73) (hq : Blk w hm #[.int .i64 m] 3) :
    Calls Tryz.prog 101 #[.pointer (some ⟨hr, 0, none⟩), .pointer (some ⟨hm, 0, none⟩)] w (CurB w p v B (bytesX B k m) (bytesE B k m) (bytesK B k m)) := by
  have H := Lib.hid (bytes_any p k m v B w hc)
  obtain ⟨b0, -⟩ := hb.one
  obtain ⟨m0, -⟩ := hq.one
  clear hc hb hq
  generalize bytesX B k m = X at *
  generalize bytesE B k m = E at *
  generalize bytesK B k m = K at *
  go_enter Tryz.func101, Tryz.ntmps101
  go_wp2_with (refine H.out.mono ?_; rintro e w1 ⟨r1, rfl, rd1, fr1, cur1, k1⟩)
  exact bodyPost_ret (v := .tuple #[r1, .int .i64 E]) (by simp [results, Tryz.results101]) rfl ⟨r1, rfl, rd1, fr1, cur1, k1⟩

set_option maxRecDepth 100000 in
theorem rbytes_any (p k  : Nat) (m : Int) (v : Value) (B : List Int) (w : World) (hc : Cur w p v B k) :
    Calls Tryz.prog 75 #[.agg #[.pointer (some ⟨p, 0, none⟩)], .int .i64 m] w (RdEndB w p v B (bytesX B k m) (bytesE B k m) (bytesK B k m)) := by
  have k0 : Keeps w ((w.alloc (.cells #[.pointer (some ⟨p, 0, none⟩)] 73)).alloc (.cells #[.int .i64 m] 3)) [] := ((Keeps.refl w []).alloc _).alloc _
  have b0 := (Blk.new w #[.pointer (some ⟨p, 0, none⟩)] 73).alloc (.cells #[.int .i64 m] 3)
  have b1 := Blk.new (w.alloc (.cells #[.pointer (some ⟨p, 0, none⟩)] 73)) #[.int .i64 m] 3
  simp only [World.size_alloc] at b1
  have H := Lib.hid (wreadBytes_any p _ v B _ #[] _ _ _ (rbytes1_any p k w.heap.size (w.heap.size + 1) m v B _ (hc.keeps k0) b0 b1))
  have hs0 := k0.size
  clear hc b0 b1
  generalize bytesX B k m = X at *
  generalize bytesE B k m = E at *
  generalize bytesK B k m = K at *
  by_cases hE : E = 0
  · subst hE
    go_enter Tryz.func75, Tryz.ntmps75
    go_wp2_with (refine H.out.mono ?_; rintro e w1 ⟨he, -, cur1, k1⟩; obtain ⟨r1, rfl, rd1, fr1⟩ := he rfl)
    go_ret
    exact ⟨fun _ => ⟨r1, rfl, rd1, fr1.mono hs0⟩, (fun h => absurd rfl h), cur1, (k0.mono (by simp)).trans k1 (fun j hj _ => hj)⟩
  · go_enter Tryz.func75, Tryz.ntmps75
    go_wp2_with (refine H.out.mono ?_; rintro e w1 ⟨-, he, cur1, k1⟩; obtain rfl := he hE)
    exact ⟨rfl, (fun h => absurd h hE), fun _ => rfl, cur1, (k0.mono (by simp)).trans k1 (fun j hj _ => hj)⟩

end Go.Proofs.YtophgpnnjphnmaaGreat
