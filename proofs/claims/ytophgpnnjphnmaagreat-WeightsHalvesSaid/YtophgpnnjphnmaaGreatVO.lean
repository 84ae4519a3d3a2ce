/-
  The law's helpers same, no, gets.
-/
import Derived.Test.YtophgpnnjphnmaaGreatVN
import Derived.Test.YtophgpnnjphnmaaGreatVF
namespace Go.Proofs.YtophgpnnjphnmaaGreat
set_option linter.unusedVariables false
set_option linter.unusedSimpArgs false
set_option linter.unusedSectionVars false
open Go.RowKit

theorem no_any (n : Int) (w : World) : Calls Tryz.prog 16 #[.int .i64 n] w fun e w' => e = .returned (.int .i64 n) ∧ w' = w := by
  go_enter Tryz.func16, Tryz.ntmps16
  go_wp2
  go_ret
  exact ⟨rfl, rfl⟩

set_option maxHeartbeats 1000000 in
theorem same_yes (v1 v2 : Value) (l : List Int) (w : World) (h1 : RdI .i64 w v1 l) (h2 : RdI .i64 w v2 l) (hn : l.length ≤ 1000000) :
    Calls Tryz.prog 15 #[v1, v2] w fun e w' => e = .returned (.bool true) ∧ ∃ m, w' = w.drewN m := by
  obtain ⟨A1, n, c1, rfl, hn1, -⟩ := h1.form
  obtain ⟨A2, n2, c2, rfl, hn2, -⟩ := h2.form
  obtain rfl : n2 = n := by omega
  have H1 := Lib.hid h1
  have H2 := Lib.hid h2
  have HN := Lib.hid hn1
  have hn' : n2 ≤ 1000000 := by omega
  clear h1 h2 hn1 hn2 hn
  go_enter Tryz.func15, Tryz.ntmps15
  go_wp2_with fail
  go_loopw [5] (fun i wr => ∃ k nd : Nat, k ≤ n2 ∧ i = .int .i64 k ∧ wr = w.drewN nd) (fun i _ => n2 - (intOf i).toNat)
  case atStart => exact ⟨0, 0, Nat.zero_le _, rfl, rfl⟩
  case round =>
    obtain ⟨k, nd, hk, rfl, rfl⟩ := hrel
    by_cases hlt : k < n2
    · obtain ⟨x, hx⟩ : ∃ x, l[k]? = some x := ⟨_, List.getElem?_eq_getElem (by have := HN.out; omega)⟩
      obtain ⟨b, o, rfl, hb, hc⟩ := H1.out.at hx
      obtain ⟨b2, o2, rfl, hb2, hc2⟩ := H2.out.at hx
      have hcap := H1.out.cap
      have hcap2 := H2.out.cap
      have hkn : (k : Int) < (n2 : Int) := by omega
      have hk0 : (0 : Int) ≤ (k : Int) := Int.natCast_nonneg _
      clear hx
      go_wp2_with fail
      go_quiet (fail)
      go_wp2_with fail
      go_roundw
      case rel => exact ⟨k + 1, nd + nq, by omega, by go_num, rfl⟩
      case measure => simp [intOf]; omega
    · have : k = n2 := by omega
      subst this
      go_wp2_with fail
      go_ret
      exact ⟨rfl, _, rfl⟩

theorem Blk.newAt {w : World} {cs : Array Value} {T : TypeId} {b : Nat} (h : w.heap.size = b) : Blk (w.alloc (.cells cs T)) b cs T := h ▸ Blk.new w cs T

theorem blk_nums {w : World} {b : Nat} {l : List Int} {k : IntKind} {T : TypeId} (h : Blk w b (l.map (Value.int k)).toArray T) : RdI k w (.slice (some ⟨b, 0, none⟩) l.length l.length) l :=
  ⟨_, _, _, rfl, rfl, (fun h => by cases h), fun h0 => ⟨Nat.le_refl _, b, 0, rfl, h.lt, fun i x hx => by
    rw [Nat.zero_add, h.cell]
    simp [hx]⟩⟩

theorem blk_one {w : World} {b : Nat} {x : Int} {k : IntKind} {T : TypeId} (h : Blk w b #[.int k x] T) : RdI k w (.slice (some ⟨b, 0, none⟩) 1 1) [x] := blk_nums (l := [x]) h
theorem blk_two {w : World} {b : Nat} {x y : Int} {k : IntKind} {T : TypeId} (h : Blk w b #[.int k x, .int k y] T) : RdI k w (.slice (some ⟨b, 0, none⟩) 2 2) [x, y] := blk_nums (l := [x, y]) h
theorem blk_three {w : World} {b : Nat} {x y z : Int} {k : IntKind} {T : TypeId} (h : Blk w b #[.int k x, .int k y, .int k z] T) : RdI k w (.slice (some ⟨b, 0, none⟩) 3 3) [x, y, z] := blk_nums (l := [x, y, z]) h
theorem blk_four {w : World} {b : Nat} {x y z u : Int} {k : IntKind} {T : TypeId} (h : Blk w b #[.int k x, .int k y, .int k z, .int k u] T) : RdI k w (.slice (some ⟨b, 0, none⟩) 4 4) [x, y, z, u] := blk_nums (l := [x, y, z, u]) h

/-- How gets ends. -/
def GetEnd (w : World) (out : List Int) (left n : Int) (e : Ending) (w' : World) : Prop := ∃ r, e = .returned (.tuple #[r, .int .i64 left, .int .i64 n]) ∧ RdI .i64 w' r out ∧ Keeps w w' []

set_option maxRecDepth 100000 in
theorem gets_of (v : Value) (B out : List Int) (n : Int) (k' : Nat) (w : World) (hv : RdI .u8 w v B) (hn : B.length ≤ 1000000) (hx : ∀ x ∈ B, 0 ≤ x ∧ x ≤ 255)
    (hdec : ∀ W p v', Cur W p v' B 0 → Calls Tryz.prog 29 #[.pointer (some ⟨p, 0, none⟩)] W (DecEnd W p v' B out n k')) :
    Calls Tryz.prog 33 #[v] w (GetEnd w out ((B.length : Int) - (k' : Int)) n) := by
  have HN := Lib.hid (new_any v B w hv hn hx)
  have HD := Lib.hid hdec
  have hl : Hid (∀ W p v', Cur W p v' B k' → Calls Tryz.prog 51 #[.pointer (some ⟨p, 0, none⟩)] W fun e w' => e = .returned (.int .i64 ((B.length : Int) - (k' : Int))) ∧ ∃ m, w' = W.drewN m) := fun W p v' h => left_any p k' v' B W h
  obtain ⟨ad, m, c, rfl, -, -⟩ := hv.form
  clear hv hdec
  generalize (B.length : Int) - (k' : Int) = LF at *
  go_enter Tryz.func33, Tryz.ntmps33
  go_wp2_with (first
    | (go_at_call 27; go_loud (refine HN.out.mono ?_; rintro e w1 ⟨p, v1, rfl, hp, cur1, k1⟩))
    | (go_at_call 29; go_loud (refine (HD.out _ _ _ cur1).mono ?_; rintro e w2 ⟨r2, rfl, rd2, -, cur2, k2⟩))
    | (go_at_call 51; go_loud (refine (hl.out _ _ _ cur2).mono ?_; rintro e w3 ⟨rfl, mq, rfl⟩))
    | (go_at_call 16; go_loud (refine (no_any _ _).mono ?_; rintro e w4 ⟨rfl, rfl⟩)))
  exact bodyPost_ret (v := .tuple #[r2, .int .i64 LF, .int .i64 n]) (by simp [results, Tryz.results33]) rfl ⟨_, rfl, rd2.drewN mq, (k1.trans k2 (fun j hj hlt => by simp at hj; omega)).drewN mq⟩

end Go.Proofs.YtophgpnnjphnmaaGreat
