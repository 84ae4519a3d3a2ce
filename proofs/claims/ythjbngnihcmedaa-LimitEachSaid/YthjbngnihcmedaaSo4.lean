/-
  Insertion sort in place, over a comparing function that is handed in (slices' insertionSort).
-/
import Derived.Test.YthjbngnihcmedaaSo3
import Derived.Deep.QuietTactic
import Derived.BigQuiet
namespace Go.Proofs.Ythjbngnihcmedaa
set_option linter.unusedVariables false
set_option linter.unusedSimpArgs false
open Go.RowKit

/-- What a comparing function hands back. -/
def cmpR (key : Int → Int) (a b : Int) : Int := key a - key b
theorem cmpR_neg {key : Int → Int} {a b : Int} : cmpR key a b < 0 ↔ key a < key b := by unfold cmpR; omega

/-- The function value gf (captured: lb) compares by key, whatever becomes of block g; it reads alone. -/
def CmpOk (P : Program) (gf : Nat) (lb : Array Value) (key : Int → Int) (g : Nat) (ok : Int → Prop) (w : World) : Prop :=
  ∀ (w' : World), Keeps w w' [g] → ∀ a b, ok a → ok b → Calls P gf (#[.int .i64 a, .int .i64 b] ++ lb) w' fun e w'' => e = .returned (.int .i64 (cmpR key a b)) ∧ ∃ m, w'' = w'.drewN m
theorem CmpOk.keeps {P : Program} {gf : Nat} {lb : Array Value} {key : Int → Int} {g : Nat} {ok : Int → Prop} {w w' : World} (h : CmpOk P gf lb key g ok w) (k : Keeps w w' [g]) : CmpOk P gf lb key g ok w' :=
  fun w2 k2 => h w2 (k.trans k2 (fun x hx _ => hx))

/-- The number x on its way into the sorted list D: it stands behind A and ahead of B. -/
def InsSt (key : Int → Int) (D : List Int) (x : Int) (A B : List Int) : Prop := EqF key (D ++ [x]) (A ++ x :: B) ∧ Srt key (A ++ B) ∧ ∀ y ∈ B, key x < key y

section
variable {key : Int → Int} {D A B : List Int} {x y : Int}
theorem ins_start (h : Srt key D) : InsSt key D x D [] := ⟨EqF.refl _, by simpa using h, by simp⟩
theorem ins_step (h : InsSt key D x (A ++ [y]) B) (hxy : key x < key y) : InsSt key D x A (y :: B) := by
  obtain ⟨h1, h2, h3⟩ := h
  refine ⟨h1.trans ?_, by simpa using h2, ?_⟩
  · have := EqF.step (key := key) (x := x) (y := y) (by omega) A B
    simpa using this
  · intro z hz
    rcases List.mem_cons.1 hz with rfl | hz
    · exact hxy
    · exact h3 z hz
theorem ins_end0 (h : InsSt key D x [] B) : Srt key (x :: B) := by
  obtain ⟨h1, h2, h3⟩ := h
  exact List.pairwise_cons.2 ⟨fun y hy => by have := h3 y hy; omega, h2⟩
theorem ins_end (h : InsSt key D x (A ++ [y]) B) (hyx : key y ≤ key x) : Srt key (A ++ [y] ++ x :: B) := by
  obtain ⟨h1, h2, h3⟩ := h
  refine List.pairwise_append.2 ⟨h2.left, List.pairwise_cons.2 ⟨fun z hz => by have := h3 z hz; omega, h2.right⟩, ?_⟩
  intro u hu v hv
  rcases List.mem_cons.1 hv with rfl | hv
  · have : key u ≤ key y := by
      have hl := h2.left
      rcases List.mem_append.1 hu with hu | hu
      · exact (List.pairwise_append.1 hl).2.2 u hu y (by simp)
      · have := List.mem_singleton.1 hu; subst this; exact Int.le_refl _
    omega
  · exact h2.across u hu v hv
end

/-- What insertion has done: of M0 the part ahead of i is sorted. -/
def InsOut (key : Int → Int) (P M0 S : List Int) (a i : Nat) (L : List Int) : Prop :=
  ∃ D D0 R, L = P ++ D ++ R ++ S ∧ M0 = D0 ++ R ∧ EqF key D0 D ∧ Srt key D ∧ P.length = a ∧ a + D.length = i
/-- What it does with one number. -/
def InsIn (key : Int → Int) (P M0 S : List Int) (a i j : Nat) (L : List Int) : Prop :=
  ∃ D D0 R x A B, L = P ++ A ++ x :: B ++ R ++ S ∧ M0 = D0 ++ x :: R ∧ EqF key D0 D ∧ InsSt key D x A B ∧ P.length = a ∧ a + A.length = j ∧ j + B.length = i

section
variable {key : Int → Int} {P M0 S L : List Int} {a i j : Nat}
theorem insOut_in (h : InsOut key P M0 S a i L) (hi : i < a + M0.length) : InsIn key P M0 S a i i L := by
  obtain ⟨D, D0, R, rfl, h2, h3, h4, h5, h6⟩ := h
  have hl := h3.length
  cases R with
  | nil => rw [h2] at hi; simp at hi; omega
  | cons x R => exact ⟨D, D0, R, x, D, [], by simp, h2, h3, ins_start h4, h5, h6, by simp⟩
theorem insIn_stop (h : InsIn key P M0 S a i j L) (hs : j = a ∨ ∃ x y, L[j]? = some x ∧ L[j - 1]? = some y ∧ key y ≤ key x ∧ a < j) : InsOut key P M0 S a (i + 1) L := by
  obtain ⟨D, D0, R, x, A, B, rfl, h2, h3, h4, h5, h6, h7⟩ := h
  have srt : Srt key (A ++ x :: B) := by
    rcases hs with hs | ⟨x', y, e1, e2, hle, haj⟩
    · have : A = [] := List.eq_nil_of_length_eq_zero (by omega)
      subst this
      exact ins_end0 h4
    · rcases List.eq_nil_or_concat A with rfl | ⟨A', z, rfl⟩
      · simp at h6; omega
      · rw [List.concat_eq_append] at *
        have p1 : j = (P ++ (A' ++ [z])).length := by simp at h6 ⊢; omega
        have p2 : j - 1 = (P ++ A').length := by simp at h6 ⊢; omega
        have l1 : P ++ (A' ++ [z]) ++ x :: B ++ R ++ S = (P ++ (A' ++ [z])) ++ x :: (B ++ R ++ S) := by simp
        have l2 : P ++ (A' ++ [z]) ++ x :: B ++ R ++ S = (P ++ A') ++ z :: (x :: B ++ R ++ S) := by simp
        rw [l1, p1, get_mid] at e1
        rw [l2, p2, get_mid] at e2
        cases e1; cases e2
        exact ins_end h4 hle
  refine ⟨A ++ x :: B, D0 ++ [x], R, by simp, by rw [h2]; simp, ?_, srt, h5, by simp; omega⟩
  exact (h3.append (EqF.refl [x])).trans h4.1
theorem insIn_go (h : InsIn key P M0 S a i j L) (haj : a < j) : ∃ x y, L[j]? = some x ∧ L[j - 1]? = some y ∧ j < L.length ∧ (key x < key y → InsIn key P M0 S a i (j - 1) ((L.set j y).set (j - 1) x)) := by
  obtain ⟨D, D0, R, x, A, B, rfl, h2, h3, h4, h5, h6, h7⟩ := h
  rcases List.eq_nil_or_concat A with rfl | ⟨A', z, rfl⟩
  · simp at h6; omega
  · rw [List.concat_eq_append] at *
    have p1 : j = (P ++ A').length + 1 := by simp at h6 ⊢; omega
    have p2 : j - 1 = (P ++ A').length := by omega
    have l2 : P ++ (A' ++ [z]) ++ x :: B ++ R ++ S = (P ++ A') ++ z :: x :: (B ++ R ++ S) := by simp
    refine ⟨x, z, ?_, ?_, ?_, fun hlt => ⟨D, D0, R, x, A', z :: B, ?_, h2, h3, ins_step h4 hlt, h5, by simp at h6 ⊢; omega, by simp at h6 ⊢; omega⟩⟩
    · rw [l2, p1]; exact get_mid1
    · rw [l2, p2]; exact get_mid
    · simp at h6 ⊢; omega
    · rw [l2, p2, p1, swap_next]; simp
theorem insOut_start (h : 0 < M0.length) (ha : P.length = a) : InsOut key P M0 S a (a + 1) (P ++ M0 ++ S) := by
  cases M0 with
  | nil => simp at h
  | cons x R => exact ⟨[x], [x], R, by simp, rfl, EqF.refl _, Srt.one, ha, rfl⟩
theorem insOut_end (h : InsOut key P M0 S a (a + M0.length) L) : ∃ M, L = P ++ M ++ S ∧ EqF key M0 M ∧ Srt key M := by
  obtain ⟨D, D0, R, rfl, h2, h3, h4, h5, h6⟩ := h
  have hl := h3.length
  have : R = [] := List.eq_nil_of_length_eq_zero (by rw [h2, List.length_append] at h6; omega)
  subst this
  exact ⟨D, by simp, by rw [h2]; simpa using h3, h4⟩
theorem insIn_eq (h : InsIn key P M0 S a i j L) : EqF key (P ++ M0 ++ S) L := by
  obtain ⟨D, D0, R, x, A, B, rfl, h2, h3, h4, h5, h6, h7⟩ := h
  have e := ((h3.append (EqF.refl [x])).trans h4.1).mid P (R ++ S)
  rw [h2]
  simpa using e
theorem insIn_ok {ok : Int → Prop} (h : InsIn key P M0 S a i j L) (hok : ∀ x ∈ P ++ M0 ++ S, ok x) : ∀ x ∈ L, ok x := fun x hx => hok x ((insIn_eq h).mem.2 hx)
end


set_option maxHeartbeats 4000000 in
theorem insertion_any (g n c a b : Nat) (P M0 S : List Int) (gf : Nat) (lb : Array Value) (key : Int → Int) (ok : Int → Prop) (w : World) (eg : ∀ args w, (callFunc gf args).run Try.prog w = .ok (.enter gf args) w)
    (h : RowI w g n c (P ++ M0 ++ S)) (hc : CmpOk Try.prog gf lb key g ok w) (hok : ∀ x ∈ P ++ M0 ++ S, ok x) (hn : n ≤ 1000000) (ha : a = P.length) (hb : b = P.length + M0.length) :
    Calls Try.prog 69 #[.slice (some ⟨g, 0, none⟩) n c, .int .i64 a, .int .i64 b, .func (.func gf) #[] lb] w fun e w' => e = .returned (.tuple #[]) ∧ (∃ M, RowI w' g n c (P ++ M ++ S) ∧ EqF key M0 M ∧ Srt key M) ∧ Keeps w w' [g] := by
  have hbn : b ≤ n := by have := h.1; simp at this; omega
  have hcap := h.cap
  have han : a ≤ n := by omega
  by_cases hM : M0.length = 0
  · have hM0 : M0 = [] := List.eq_nil_of_length_eq_zero hM
    have hab : ¬ ((a : Int) + 1 < (b : Int)) := by omega
    have H := Lib.hid h
    have HM := Lib.hid hM0
    have hdec : decide (a + 1 < b) = false := decide_eq_false (by omega)
    clear h hc hok ha hb hM hM0
    go_enter Try.func69, Try.ntmps69
    go_wp2_with fail
    refine wp_loop_rounds 1 ?_
    rw [rounds_succ]
    go_wp2_with fail
    go_end0
    exact ⟨rfl, ⟨M0, H.out, EqF.refl _, by rw [HM.out]; exact Srt.nil⟩, Keeps.refl _ _⟩
  · have st := Lib.hid (insOut_start (key := key) (S := S) (show 0 < M0.length by omega) ha.symm)
    have H := Lib.hid h
    have HC := Lib.hid hc
    have HOK := Lib.hid hok
    have HB : Hid (b = a + M0.length) := by show _ = _; omega
    have hab : a + 1 ≤ b := by omega
    clear h hc hok ha hb hM
    go_enter Try.func69, Try.ntmps69
    go_wp2_with fail
    go_loopw [8] (fun s8 wr => ∃ (i : Nat) (L : List Int), i ≤ b ∧ s8 = .int .i64 i ∧ Hid (InsOut key P M0 S a i L) ∧ Hid (RowI wr g n c L) ∧ a + 1 ≤ i ∧ Keeps w wr [g]) (fun s8 _ => b - (intOf s8).toNat)
    case atStart => exact ⟨a + 1, _, hab, by go_num, st, H, Nat.le_refl _, Keeps.refl _ _⟩
    case round =>
      obtain ⟨i, L, hib, rfl, hL, hR, hai, kr⟩ := hrel
      obtain ⟨wo, rfl⟩ : ∃ wo : World, wo = wr := ⟨_, rfl⟩
      clear st H hab
      by_cases hlt : i < b
      · have hI := Lib.hid (insOut_in hL.out (by have := HB.out; omega))
        clear hL
        go_wp2_with fail
        go_loopw [9] (fun s9 wr => ∃ (j : Nat) (L : List Int), a ≤ j ∧ j ≤ i ∧ s9 = .int .i64 j ∧ Hid (InsIn key P M0 S a i j L) ∧ Hid (RowI wr g n c L) ∧ Keeps w wr [g]) (fun s9 _ => (intOf s9).toNat)
        case atStart => exact ⟨i, L, by omega, Nat.le_refl _, rfl, hI, hR, kr⟩
        case round =>
          obtain ⟨j, L', haj, hji, rfl, hI', hR', kr'⟩ := hrel
          clear hI hR kr
          by_cases hj : a < j
          · obtain ⟨x, y, e1, e2, hjl, hst⟩ := insIn_go hI'.out hj
            have hjn : j < n := by have := hR'.out.1; omega
            have c1 := hR'.out.at e1
            have c2 := hR'.out.at e2
            have f1 := hR'.out.frozen j
            have f2 := hR'.out.frozen (j - 1)
            have hox := Lib.hid (insIn_ok hI'.out HOK.out x (List.mem_of_getElem? e1))
            have hoy := Lib.hid (insIn_ok hI'.out HOK.out y (List.mem_of_getElem? e2))
            have hst2 : Hid (key y ≤ key x → InsOut key P M0 S a (i + 1) L') := fun hle => insIn_stop hI'.out (.inr ⟨x, y, e1, e2, hle, hj⟩)
            have HST := Lib.hid hst
            have z1 : (j : Int) - 1 = ((j - 1 : Nat) : Int) := by omega
            have s1 : IntKind.i64.wrap ((j : Int) - 1) = ((j - 1 : Nat) : Int) := by rw [← z1]; exact IntWalk.i64_in _ (by omega)
            have hne : j ≠ j - 1 := by omega
            have hj1 : j - 1 < n := by omega
            have dj : decide (a < j) = true := decide_eq_true hj
            have R' := Lib.hid (fun u v => ((hR'.out.set j u).set (j - 1) v))
            clear e1 e2 hst hI'
            go_wp2_with fail
            go_quiet ((exact Calls.quiet_of (HC.out _ (kr'.drewN _) _ _ hox.out hoy.out)))
            rcases Int.lt_or_le (key x) (key y) with hxy | hxy
            · have hneg : decide (cmpR key x y < 0) = true := decide_eq_true (cmpR_neg.2 hxy)
              have hneg2 : cmpR key x y < 0 := cmpR_neg.2 hxy
              have hin := Lib.hid (HST.out hxy)
              clear hxy
              go_wp2_with fail
              go_region
              go_wp2_with fail
              go_roundw
              case rel => exact ⟨j - 1, (L'.set j y).set (j - 1) x, by omega, by omega, rfl, hin, R'.out y x, (((kr'.drewN nq).setCell (a := ⟨g, j, none⟩) (.inr (by simp)) (.int .i64 y)).setCell (a := ⟨g, j - 1, none⟩) (.inr (by simp)) (.int .i64 x)).drew⟩
              case measure => simp [intOf]; omega
            · have hneg : decide (cmpR key x y < 0) = false := decide_eq_false (fun h => by have := cmpR_neg.1 h; omega)
              have hneg2 : ¬ cmpR key x y < 0 := fun h => by have := cmpR_neg.1 h; omega
              have hout := Lib.hid (hst2.out hxy)
              clear hxy
              go_wp2_with fail
              go_roundw
              case rel => exact ⟨i + 1, L', by omega, by go_num, hout, hR', by omega, kr'.drewN nq⟩
              case measure => simp [intOf]; omega
          · have hja : j = a := by omega
            have hst2 := Lib.hid (insIn_stop hI'.out (.inl hja))
            have dj : decide (a < j) = false := decide_eq_false hj
            have hja' : ¬ (a : Int) < (j : Int) := by omega
            clear hja
            go_wp2_with fail
            go_quiet (fail)
            go_wp2_with fail
            go_roundw
            case rel => exact ⟨i + 1, L', by omega, by go_num, hst2, hR', by omega, kr'.drewN nq⟩
            case measure => simp [intOf]; omega
      · have : i = b := by omega
        subst this
        rw [HB.out] at hL
        obtain ⟨M, rfl, m1, m2⟩ := insOut_end hL.out
        have M1 := Lib.hid m1
        have M2 := Lib.hid m2
        clear m1 m2 hL
        go_wp2_with fail
        go_end0
        exact ⟨rfl, ⟨M, hR.out, M1.out, M2.out⟩, kr⟩

end Go.Proofs.Ythjbngnihcmedaa
