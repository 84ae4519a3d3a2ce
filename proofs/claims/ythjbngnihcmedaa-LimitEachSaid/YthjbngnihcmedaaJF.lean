/-
  Walks over package limit: consecutive pairs of packages.
-/
import Derived.Test.YthjbngnihcmedaaJE
namespace Go.Proofs.Ythjbngnihcmedaa
set_option linter.unusedVariables false
set_option linter.unusedSimpArgs false
set_option linter.unusedSectionVars false
open Go.RowKit

/-- The function value gf joins two lists. -/
def BothOk (P : Program) (gf : Nat) : Prop := ∀ (va vb : Value) (A B : List Int) (w : World), RdI .i64 w va A → RdI .i64 w vb B → 0 < B.length → A.length + B.length ≤ 1000000 → Calls P gf #[va, vb] w (BothEnd w A B)
/-- What is asked of packages. -/
def FineP (l : List Pack) : Prop := ∀ p ∈ l, 0 ≤ p.1 ∧ p.1 ≤ 1152921504606846976 ∧ 0 < p.2.length ∧ p.2.length ≤ 500000

theorem pairedP_take {l : List Pack} {k : Nat} {p q : Pack} (hp : l[2 * k]? = some p) (hq : l[2 * k + 1]? = some q) : pairedP (l.take (2 * (k + 1))) = pairedP (l.take (2 * k)) ++ [(p.1 + q.1, p.2 ++ q.2)] := by
  induction k generalizing l with
  | zero =>
    match l, hp, hq with
    | a :: b :: r, hp, hq => simp at hp hq; subst hp hq; simp [pairedP]
    | [a], hp, hq => simp at hq
    | [], hp, hq => simp at hp
  | succ k ih =>
    match l, hp, hq with
    | a :: b :: r, hp, hq =>
      have h1 : r[2 * k]? = some p := by rw [show 2 * (k + 1) = 2 * k + 1 + 1 by omega] at hp; simpa using hp
      have h2 : r[2 * k + 1]? = some q := by rw [show 2 * (k + 1) + 1 = 2 * k + 1 + 1 + 1 by omega] at hq; simpa using hq
      have := ih h1 h2
      rw [show 2 * (k + 1 + 1) = 2 * (k + 1) + 1 + 1 by omega, show 2 * (k + 1) = 2 * k + 1 + 1 by omega]
      simp only [List.take_succ_cons, pairedP, List.cons_append]
      rw [show 2 * k + 1 + 1 = 2 * (k + 1) by omega, this]
    | [a], hp, hq => rw [show 2 * (k + 1) = 2 * k + 1 + 1 by omega] at hp; simp at hp
    | [], hp, hq => simp at hp
theorem pairedP_odd {l : List Pack} {k : Nat} (h : l.length ≤ 2 * k + 1) : pairedP (l.take (2 * k)) = pairedP l := by
  induction k generalizing l with
  | zero =>
    match l, h with
    | [], _ => rfl
    | [a], _ => simp [pairedP]
    | a :: b :: r, h => simp at h
  | succ k ih =>
    match l, h with
    | [], _ => simp
    | [a], _ => rw [List.take_of_length_le (by simp; omega)]
    | a :: b :: r, h =>
      rw [show 2 * (k + 1) = 2 * k + 1 + 1 by omega]
      simp only [List.take_succ_cons, pairedP]
      rw [ih (by simp at h; omega)]

theorem holdP {w w' : World} {a b c d : Addr} {x y z u : Value} (h1 : w.cell? a = some x) (h2 : w.cell? b = some y) (h3 : w.cell? c = some z) (h4 : w.cell? d = some u) (l1 : a.block < w.heap.size) (l2 : b.block < w.heap.size) (l3 : c.block < w.heap.size) (l4 : d.block < w.heap.size) (kk : Keeps w w' []) :
    w'.cell? a = some x ∧ w'.cell? b = some y ∧ w'.cell? c = some z ∧ w'.cell? d = some u ∧ Keeps w w' [] :=
  ⟨(kk.cell l1 (by simp)).trans h1, (kk.cell l2 (by simp)).trans h2, (kk.cell l3 (by simp)).trans h3, (kk.cell l4 (by simp)).trans h4, kk⟩

variable [SH : Shun]
set_option maxRecDepth 100000 in
set_option maxHeartbeats 8000000 in
theorem paired_any (gf : Nat) (va : Value) (A : List Pack) (w : World) (eg : ∀ args w, (callFunc gf args).run Try.prog w = .ok (.enter gf args) w) (hgf : BothOk Try.prog gf) (ha : RdK w va A) (hl : A.length ≤ 100000) (hf : FineP A) (hsh : SH.g < w.heap.size) :
    Calls Try.prog 39 #[va, .func (.func gf) #[] #[]] w (PackEnd w (pairedP A)) := by
  obtain ⟨aa, na, ca, rfl, hna, -⟩ := ha.form
  obtain ⟨i0, hi, hz0, hz1, hz2⟩ := info_parts Try.infoPack
  have RA := Lib.hid ha
  have HN := Lib.hid hna
  have HF := Lib.hid hf
  have HG := Lib.hid hgf
  have hn' : na ≤ 100000 := by omega
  clear ha hna hl hf hgf
  go_enter Try.func39, Try.ntmps39
  go_wp2_with fail
  go_loopw [4, 5] (fun s4 s5 wr => ∃ (i k c : Nat) (ao : Option Addr), s5 = .int .i64 i ∧ s4 = .slice ao k c ∧ i ≤ na ∧ k ≤ na ∧ Hid (i = 2 * k) ∧ Hid (OwnK wr w.heap.size 68 (.slice ao k c) (pairedP (A.take i))) ∧ Hid ((pairedP (A.take i)).length = k) ∧ Keeps w wr []) (fun _ s5 _ => na - (intOf s5).toNat)
  case atStart => exact ⟨0, 0, 0, none, rfl, rfl, by omega, by omega, rfl, OwnK.nil, rfl, Keeps.refl _ _⟩
  case round =>
    obtain ⟨i, k, c, ao, rfl, rfl, hina, hkna, hik, hO, hlen, kr⟩ := hrel
    have hkz := kr.size
    by_cases hlt : i + 1 < na
    · obtain ⟨p, hp⟩ : ∃ p, A[i]? = some p := ⟨_, List.getElem?_eq_getElem (by have := HN.out; omega)⟩
      obtain ⟨q, hq⟩ : ∃ q, A[i + 1]? = some q := ⟨_, List.getElem?_eq_getElem (by have := HN.out; omega)⟩
      obtain ⟨ba, oa, vp, rfl, hba, p1, p2, p3⟩ := RA.out.at hp
      obtain ⟨bb, ob, vq, he, hbb, q1, q2, q3⟩ := RA.out.at hq
      cases he
      have hca := RA.out.cap
      have fp := HF.out p (List.mem_of_getElem? hp)
      have fq := HF.out q (List.mem_of_getElem? hq)
      have P3 := Lib.hid p3
      have Q3 := Lib.hid q3
      have HPT : Hid (pairedP (A.take (i + 2)) = pairedP (A.take i) ++ [(p.1 + q.1, p.2 ++ q.2)]) := by
        have e := hik.out
        show _ = _
        rw [e] at hp hq ⊢
        rw [show 2 * k + 2 = 2 * (k + 1) by omega]
        exact pairedP_take hp hq
      have CALLB := Lib.hid (fun (w' : World) (kk : Keeps w w' []) => HG.out vp vq p.2 q.2 w' (P3.out.1.keeps kk) (Q3.out.1.keeps kk) fq.2.2.1 (by omega))
      have ws : IntKind.i64.wrap (p.1 + q.1) = p.1 + q.1 := IntWalk.i64_in _ (by omega)
      have wi : IntKind.i64.wrap ((i : Int) + 1) = (i : Int) + 1 := IntWalk.i64_in _ (by omega)
      have wi2 : ((i : Int) + 1).toNat = i + 1 := by omega
      have wi3 : 0 ≤ (i : Int) + 1 := by omega
      have wi4 : (i : Int) + 1 < (na : Int) := by omega
      have wi5 : (i : Int) < (na : Int) := by omega
      have hi0 : (0 : Int) ≤ (i : Int) := Int.natCast_nonneg _
      have hil : i < na := by omega
      clear hp hq p3 q3 fp fq
      go_wp2_with fail
      refine wp_region_held_drew (S := (fun w' => w'.cell? ⟨ba, oa + i * 2, none⟩ = some (.int .i64 p.1) ∧ w'.cell? ⟨ba, oa + i * 2 + 1, none⟩ = some vp ∧ w'.cell? ⟨ba, oa + (i + 1) * 2, none⟩ = some (.int .i64 q.1) ∧ w'.cell? ⟨ba, oa + (i + 1) * 2 + 1, none⟩ = some vq ∧ Keeps w w' [])) (by kernel_rfl) (holdP p1 p2 q1 q2 hba hba hba hba kr.drew) (fun hHeld => ?_)
      refine takeL (i := 0) (v := ?_) rfl (by kernel_rfl) (by kernel_rfl) (by kernel_rfl) (fun _ _ _ h => h) (by rfl) ?_ (by assumption) ?_
      rotate_left
      · (intro w hSw; (try dsimp only at hSw); go_simp; (try with_reducible rfl))
      try simp only [Act.put, List.setIfInBounds_toArray, List.set_cons_zero, List.set_cons_succ]
      refine takeL (i := 1) (v := ?_) rfl (by kernel_rfl) (by kernel_rfl) (by kernel_rfl) (fun _ _ _ h => h) (by rfl) ?_ (by assumption) ?_
      rotate_left
      · (intro w hSw; (try dsimp only at hSw); go_simp; (try with_reducible rfl))
      try simp only [Act.put, List.setIfInBounds_toArray, List.set_cons_zero, List.set_cons_succ]
      refine takeL (i := 2) (v := ?_) rfl (by kernel_rfl) (by kernel_rfl) (by kernel_rfl) (fun _ _ _ h => h) (by rfl) ?_ (by assumption) ?_
      rotate_left
      · (intro w hSw; (try dsimp only at hSw); go_simp; (try with_reducible rfl))
      try simp only [Act.put, List.setIfInBounds_toArray, List.set_cons_zero, List.set_cons_succ]
      refine takeL (i := 3) (v := ?_) rfl (by kernel_rfl) (by kernel_rfl) (by kernel_rfl) (fun _ _ _ h => h) (by rfl) ?_ (by assumption) ?_
      rotate_left
      · (intro w hSw; (try dsimp only at hSw); go_simp; (try with_reducible rfl))
      try simp only [Act.put, List.setIfInBounds_toArray, List.set_cons_zero, List.set_cons_succ]
      refine takeL (i := 4) (v := ?_) rfl (by kernel_rfl) (by kernel_rfl) (by kernel_rfl) (fun _ _ _ h => h) (by rfl) ?_ (by assumption) ?_
      rotate_left
      · (intro w hSw; (try dsimp only at hSw); go_simp; (try with_reducible rfl))
      try simp only [Act.put, List.setIfInBounds_toArray, List.set_cons_zero, List.set_cons_succ]
      refine takeL (i := 5) (v := ?_) rfl (by kernel_rfl) (by kernel_rfl) (by kernel_rfl) (fun _ _ _ h => h) (by rfl) ?_ (by assumption) ?_
      rotate_left
      · (intro w hSw; (try dsimp only at hSw); go_simp; (try with_reducible rfl))
      try simp only [Act.put, List.setIfInBounds_toArray, List.set_cons_zero, List.set_cons_succ]
      refine takeL (i := 6) (v := ?_) rfl (by kernel_rfl) (by kernel_rfl) (by kernel_rfl) (fun _ _ _ h => h) (by rfl) ?_ (by assumption) ?_
      rotate_left
      · (intro w hSw; (try dsimp only at hSw); go_simp; (try with_reducible rfl))
      try simp only [Act.put, List.setIfInBounds_toArray, List.set_cons_zero, List.set_cons_succ]
      refine takeL (i := 7) (v := ?_) rfl (by kernel_rfl) (by kernel_rfl) (by kernel_rfl) (fun _ _ _ h => h) (by rfl) ?_ (by assumption) ?_
      rotate_left
      · (intro w hSw; (try dsimp only at hSw); go_simp; (try with_reducible rfl))
      try simp only [Act.put, List.setIfInBounds_toArray, List.set_cons_zero, List.set_cons_succ]
      refine takeL (i := 8) (v := ?_) rfl (by kernel_rfl) (by kernel_rfl) (by kernel_rfl) (fun _ _ _ h => h) (by rfl) ?_ (by assumption) ?_
      rotate_left
      · (intro w hSw; (try dsimp only at hSw); go_simp; (try with_reducible rfl))
      try simp only [Act.put, List.setIfInBounds_toArray, List.set_cons_zero, List.set_cons_succ]
      refine takeL (i := 9) (v := ?_) rfl (by kernel_rfl) (by kernel_rfl) (by kernel_rfl) (fun _ _ _ h => h) (by rfl) ?_ (by assumption) ?_
      rotate_left
      · (intro w hSw; (try dsimp only at hSw); go_simp; (try with_reducible rfl))
      try simp only [Act.put, List.setIfInBounds_toArray, List.set_cons_zero, List.set_cons_succ]
      refine takeL (i := 10) (v := ?_) rfl (by kernel_rfl) (by kernel_rfl) (by kernel_rfl) (fun _ _ _ h => h) (by rfl) ?_ (by assumption) ?_
      rotate_left
      · (intro w hSw; (try dsimp only at hSw); go_simp; (try with_reducible rfl))
      try simp only [Act.put, List.setIfInBounds_toArray, List.set_cons_zero, List.set_cons_succ]
      refine takeL (i := 11) (v := ?_) rfl (by kernel_rfl) (by kernel_rfl) (by kernel_rfl) (fun _ _ _ h => h) (by rfl) ?_ (by assumption) ?_
      rotate_left
      · (intro w hSw; (try dsimp only at hSw); go_simp; (try with_reducible rfl))
      try simp only [Act.put, List.setIfInBounds_toArray, List.set_cons_zero, List.set_cons_succ]
      refine takeL (i := 12) (v := ?_) rfl (by kernel_rfl) (by kernel_rfl) (by kernel_rfl) (fun _ _ _ h => h) (by rfl) ?_ (by assumption) ?_
      rotate_left
      · (intro w hSw; (try dsimp only at hSw); go_simp; (try with_reducible rfl))
      try simp only [Act.put, List.setIfInBounds_toArray, List.set_cons_zero, List.set_cons_succ]
      refine takeL (i := 13) (v := ?_) rfl (by kernel_rfl) (by kernel_rfl) (by kernel_rfl) (fun _ _ _ h => h) (by rfl) ?_ (by assumption) ?_
      rotate_left
      · (intro w hSw; (try dsimp only at hSw); go_simp; (try with_reducible rfl))
      try simp only [Act.put, List.setIfInBounds_toArray, List.set_cons_zero, List.set_cons_succ]
      refine takeL (i := 14) (v := ?_) rfl (by kernel_rfl) (by kernel_rfl) (by kernel_rfl) (fun _ _ _ h => h) (by rfl) ?_ (by assumption) ?_
      rotate_left
      · (intro w hSw; (try dsimp only at hSw); go_simp; (try with_reducible rfl))
      try simp only [Act.put, List.setIfInBounds_toArray, List.set_cons_zero, List.set_cons_succ]
      refine takeL (i := 15) (v := ?_) rfl (by kernel_rfl) (by kernel_rfl) (by kernel_rfl) (fun _ _ _ h => h) (by rfl) ?_ (by assumption) ?_
      rotate_left
      · (intro w hSw; (try dsimp only at hSw); go_simp; (try with_reducible rfl))
      try simp only [Act.put, List.setIfInBounds_toArray, List.set_cons_zero, List.set_cons_succ]
      refine takeL (i := 16) (v := ?_) rfl (by kernel_rfl) (by kernel_rfl) (by kernel_rfl) (fun _ _ _ h => h) (by rfl) ?_ (by assumption) ?_
      rotate_left
      · (intro w hSw; (try dsimp only at hSw); go_simp; (try with_reducible rfl))
      try simp only [Act.put, List.setIfInBounds_toArray, List.set_cons_zero, List.set_cons_succ]
      refine takeL (i := 17) (v := ?_) rfl (by kernel_rfl) (by kernel_rfl) (by kernel_rfl) (fun _ _ _ h => h) (by rfl) ?_ (by assumption) ?_
      rotate_left
      · (intro w hSw; (try dsimp only at hSw); go_simp; (try with_reducible rfl))
      try simp only [Act.put, List.setIfInBounds_toArray, List.set_cons_zero, List.set_cons_succ]
      refine takeL (i := 18) (v := ?_) rfl (by kernel_rfl) (by kernel_rfl) (by kernel_rfl) (fun _ _ _ h => h) (by rfl) ?_ (by assumption) ?_
      rotate_left
      · (intro w hSw; (try dsimp only at hSw); go_simp; (try with_reducible rfl))
      try simp only [Act.put, List.setIfInBounds_toArray, List.set_cons_zero, List.set_cons_succ]
      refine takeL (i := 19) (v := ?_) rfl (by kernel_rfl) (by kernel_rfl) (by kernel_rfl) (fun _ _ _ h => h) (by rfl) ?_ (by assumption) ?_
      rotate_left
      · (intro w hSw; (try dsimp only at hSw); go_simp; (try with_reducible rfl))
      try simp only [Act.put, List.setIfInBounds_toArray, List.set_cons_zero, List.set_cons_succ]
      refine takeL (i := 20) (v := ?_) rfl (by kernel_rfl) (by kernel_rfl) (by kernel_rfl) (fun _ _ _ h => h) (by rfl) ?_ (by assumption) ?_
      rotate_left
      · (intro w hSw; (try dsimp only at hSw); go_simp; (try with_reducible rfl))
      try simp only [Act.put, List.setIfInBounds_toArray, List.set_cons_zero, List.set_cons_succ]
      refine takeL (i := 21) (v := ?_) rfl (by kernel_rfl) (by kernel_rfl) (by kernel_rfl) (fun _ _ _ h => h) (by rfl) ?_ (by assumption) ?_
      rotate_left
      · (intro w hSw; (try dsimp only at hSw); go_simp; (try with_reducible rfl))
      try simp only [Act.put, List.setIfInBounds_toArray, List.set_cons_zero, List.set_cons_succ]
      refine takeL (i := 22) (v := ?_) rfl (by kernel_rfl) (by kernel_rfl) (by kernel_rfl) (fun _ _ _ h => h) (by rfl) ?_ (by assumption) ?_
      rotate_left
      · (intro w hSw; (try dsimp only at hSw); go_simp; (try with_reducible rfl))
      try simp only [Act.put, List.setIfInBounds_toArray, List.set_cons_zero, List.set_cons_succ]
      refine takeL (i := 23) (v := ?_) rfl (by kernel_rfl) (by kernel_rfl) (by kernel_rfl) (fun _ _ _ h => h) (by rfl) ?_ (by assumption) ?_
      rotate_left
      · (intro w hSw; (try dsimp only at hSw); go_simp; (try with_reducible rfl))
      try simp only [Act.put, List.setIfInBounds_toArray, List.set_cons_zero, List.set_cons_succ]
      refine takeL (i := 24) (v := ?_) rfl (by kernel_rfl) (by kernel_rfl) (by kernel_rfl) (fun _ _ _ h => h) (by rfl) ?_ (by assumption) ?_
      rotate_left
      · (intro w hSw; (try dsimp only at hSw); go_simp; (try with_reducible rfl))
      try simp only [Act.put, List.setIfInBounds_toArray, List.set_cons_zero, List.set_cons_succ]
      refine callL (i := 25) rfl (by kernel_rfl) (fun Kont hK => ?_)
      go_simp
      refine (CALLB.out _ hHeld.2.2.2.2).mono ?_; rintro e w4 ⟨v4, rfl, r4, f4, k4⟩; obtain ⟨a4, n4, c4, hv4, -⟩ := r4.form; subst hv4; have R4 := Lib.hid r4; have F4 := Lib.hid f4; clear r4 f4; have kw4 := hHeld.2.2.2.2.then k4
      go_wp2_with fail
      refine hK.out _ _ ?_ (fun hHeld => ?_)
      · (exact holdP p1 p2 q1 q2 hba hba hba hba kw4)
      clear hK Kont
      refine takeL (i := 26) (v := ?_) rfl (by kernel_rfl) (by kernel_rfl) (by kernel_rfl) (fun _ _ _ h => h) (by rfl) ?_ (by assumption) ?_
      rotate_left
      · (intro w hSw; (try dsimp only at hSw); go_simp; (try with_reducible rfl))
      try simp only [Act.put, List.setIfInBounds_toArray, List.set_cons_zero, List.set_cons_succ]
      refine callL (i := 27) rfl (by kernel_rfl) (fun Kont hK => ?_)
      go_simp
      refine hK.out _ _ ?_ (fun hHeld => ?_)
      · (exact holdP p1 p2 q1 q2 hba hba hba hba (hHeld.2.2.2.2.alloc _))
      clear hK Kont
      refine callL (i := 28) rfl (by kernel_rfl) (fun Kont hK => ?_)
      have OW := hO.out.keep ((((Keeps.refl wr []).drew).then k4).alloc (.cells #[.int .i64 (p.1 + q.1), .slice a4 n4 c4] 68))
      have hob : ∀ x, Value.ownBlock (.slice ao k c) = some x → x < wr.heap.size := fun x hx => by obtain ⟨xs, h1, -⟩ := hO.out; exact (h1.lt x hx).2
      have RJ4 : RdJ (w4.alloc (.cells #[.int .i64 (p.1 + q.1), .slice a4 n4 c4] 68)) (.slice a4 n4 c4) (p.2 ++ q.2) := ⟨R4.out.keeps ((Keeps.refl w4 []).alloc _), fun ad n c he h0 => by
        have h5 := (F4.out ad n c he).1
        have hd : wr.drew.heap.size = wr.heap.size := rfl
        rw [hd] at h5
        omega⟩
      refine step_appendK rfl (.tmp 13) (.tmp 40) 61 rfl w.heap.size 68 i0 (.agg #[.int .i64 0, .slice none 0 0]) 32 Try.underlying61 hi hz0 hz1 hz2 rfl (.slice ao k c) (pairedP (A.take i)) rfl OW w4.heap.size (p.1 + q.1) (.slice a4 n4 c4) (p.2 ++ q.2) 68 rfl (Blk.new w4 _ _) RJ4 ?_ (by unfold maxLen; have := hlen.out; omega) (by have := hlen.out; omega) hHeld.2.2.2.2.size ?_
      · intro ad n c he h0
        obtain ⟨g1, g2⟩ := F4.out ad n c he
        have hd : wr.drew.heap.size = wr.heap.size := rfl
        rw [hd] at g1
        exact ⟨by rw [World.size_alloc]; omega, fun h => by have := hob _ h; omega⟩
      · intro v5 w5 own5 g5
        have q5 := grown_low OW g5 hHeld.2.2.2.2 (Nat.le_refl _)
        obtain ⟨A5, c5, rfl⟩ := own5.form
        have OWN5 := Lib.hid own5
        clear own5 g5 OW
        refine hK.out _ _ ?_ (fun hHeld => ?_)
        · exact holdP p1 p2 q1 q2 hba hba hba hba q5
        clear hK Kont
        try simp only [Act.put, List.setIfInBounds_toArray, List.set_cons_zero, List.set_cons_succ]
        refine takeL (i := 29) (v := ?_) rfl (by kernel_rfl) (by kernel_rfl) (by kernel_rfl) (fun _ _ _ h => h) (by rfl) ?_ (by assumption) ?_
        rotate_left
        · (intro w hSw; (try dsimp only at hSw); go_simp; (try with_reducible rfl))
        try simp only [Act.put, List.setIfInBounds_toArray, List.set_cons_zero, List.set_cons_succ]
        refine wpAnyH_done (by kernel_rfl) ?_ _
        go_wp2_with fail
        go_roundw
        case rel => exact ⟨i + 2, k + 1, c5, A5, by go_num, by have h := hlen.out; first | (rw [List.length_append, h]; rfl) | (rw [h]), by omega, by have := hik.out; omega, by show _ = _; have := hik.out; omega, by show OwnK _ _ _ _ _; rw [HPT.out]; have h := OWN5.out; rw [List.length_append, hlen.out] at h; exact h, by show _ = _; rw [HPT.out, List.length_append, hlen.out]; rfl, q5⟩
        case measure => simp [intOf]; omega
    · have HF2 : Hid (pairedP (A.take i) = pairedP A) := by
        have e := hik.out
        show _ = _
        rw [e]
        exact pairedP_odd (by have := HN.out; omega)
      have hlt2 : ¬ ((i : Int) + 1 < (na : Int)) := by omega
      go_wp2_with fail
      go_ret
      have h := hO.out
      rw [HF2.out] at h
      exact ⟨_, rfl, h, kr⟩

end Go.Proofs.Ythjbngnihcmedaa
