/-
  The stage's theorem of package tally: its walk.
-/
import Derived.Test.YtedojgbjfenmaaaU5
import Derived.Test.YtedojgbjfenmaaaT14
import Derived.Test.YtedojgbjfenmaaaAp
import Derived.Test.YtedojgbjfenmaaaStr
import Derived.Test.YtedojgbjfenmaaaAq
import Derived.Deep.RegionHeld3
import Derived.Deep.DeepCutAuto
import Derived.BigRegion
import Derived.Deep.AppendLies
namespace Go.Proofs.Ytedojgbjfenmaaa
set_option linter.unusedVariables false
set_option linter.unusedSimpArgs false
set_option linter.unusedSectionVars false
open Go.RowKit

/-- One slice in a block. -/
theorem blk_part {w : World} {b : Nat} {v : Value} {l : List Int} {T : TypeId} (h : Blk w b #[v] T) (h1 : RdI .u8 w v l) : RdL .u8 w (.slice (some ⟨b, 0, none⟩) 1 1) [l] :=
  ⟨_, _, _, rfl, rfl, fun h0 => ⟨Nat.le_refl _, b, 0, rfl, h.lt, fun i l' hl => by
    match i, hl with
    | 0, hl => cases hl; exact ⟨v, h.cell 0, h1⟩⟩⟩
theorem hist_one (v : Value) (l : List Int) (w : World) (b : Nat) (hb : Blk w b #[v] 22) (h1 : RdI .u8 w v l) (hl : ∀ x ∈ l, 0 ≤ x ∧ x ≤ 255) (hn : l.length ≤ 1000000) :
    Calls Try.prog 15 #[.slice (some ⟨b, 0, none⟩) 1 1] w (HistEnd w l) := by
  have h := hist_call _ [l] w (blk_part hb h1) (fun l' hl' => by have := List.mem_singleton.1 hl'; subst this; exact hl) (by simp) (fun l' hl' => by have := List.mem_singleton.1 hl'; subst this; exact hn)
  simpa using h

theorem RdI.front {k : IntKind} {w : World} {A : Option Addr} {n cp : Nat} {l : List Int} (h : RdI k w (.slice A n cp) l) {p : Nat} (hp : p ≤ n) : RdI k w (.slice A p cp) (l.take p) := by
  obtain ⟨a', n', cp', he, hl, h0, hc⟩ := h.form
  obtain ⟨h1, h2, h3⟩ := Value.slice.inj he
  subst h1 h2 h3
  refine ⟨_, _, _, rfl, by simp; omega, fun e => ⟨by have := (h0 e).1; omega, (h0 e).2⟩, fun hpos => ?_⟩
  obtain ⟨h1, b, o, h2, h3, h4⟩ := hc (by omega)
  refine ⟨by omega, b, o, h2, h3, fun i x hx => ?_⟩
  rw [List.getElem?_take] at hx
  split at hx
  · exact h4 i x hx
  · cases hx

theorem RdI.nothing {k : IntKind} {w : World} (A : Option Addr) (c : Nat) (h : A = none → c = 0) : RdI k w (.slice A 0 c) [] :=
  ⟨_, _, _, rfl, rfl, fun e => ⟨rfl, h e⟩, fun h0 => absurd h0 (by omega)⟩
theorem RdI.none_len {k : IntKind} {w : World} {n c : Nat} {l : List Int} (h : RdI k w (.slice none n c) l) : n = 0 ∧ c = 0 := by
  obtain ⟨a', n', cp', he, hl, h0, hc⟩ := h.form
  obtain ⟨h1, h2, h3⟩ := Value.slice.inj he
  subst h2 h3
  exact h0 h1.symm
theorem RdI.some_addr {k : IntKind} {w : World} {ad : Addr} {n c : Nat} {l : List Int} (h : RdI k w (.slice (some ad) n c) l) (hn : n ≠ 0) : ∃ b o, ad = ⟨b, o, none⟩ := by
  obtain ⟨a', n', cp', he, hl, h0, hc⟩ := h.form
  obtain ⟨h1, h2, h3⟩ := Value.slice.inj he
  subst h2 h3
  obtain ⟨-, b, o, h5, -⟩ := hc (by omega)
  exact ⟨b, o, Option.some.inj (h1.trans h5)⟩

theorem nine {a : Nat} (h : a ≤ 8) : a = 0 ∨ a = 1 ∨ a = 2 ∨ a = 3 ∨ a = 4 ∨ a = 5 ∨ a = 6 ∨ a = 7 ∨ a = 8 := by omega
theorem wrap_pow (a : Nat) (h : a ≤ 20) : wrap64 ((2 : Int) ^ a) = ((2 ^ a : Nat) : Int) ∧ 2 ^ a ≤ 1048576 := by
  have h2 : (2:Nat) ^ a ≤ 2 ^ 20 := Nat.pow_le_pow_right (by decide) h
  have h3 : (2 : Nat) ^ 20 = 1048576 := by decide
  rw [h3] at h2
  have h4 : ((2 : Int) ^ a) = ((2 ^ a : Nat) : Int) := by simp
  refine ⟨?_, h2⟩
  rw [h4]
  generalize 2 ^ a = N at *
  exact IntWalk.wrap64_in _ ⟨by omega, by omega⟩
theorem make_pow (a : Nat) (h : a ≤ 8) (w : World) : (Instr.makeSlice 26 (.int .i64 ((2 ^ a : Nat) : Int)) (.int .i64 ((2 ^ a : Nat) : Int))).run Try.prog w = .ok (.slice (some ⟨w.heap.size, 0, none⟩) (2 ^ a) (2 ^ a)) (w.alloc (.cells (ints (List.replicate (2 ^ a) 0)) 3)) := by
  rcases nine h with rfl | rfl | rfl | rfl | rfl | rfl | rfl | rfl | rfl <;> kernel_rfl

theorem rep_set {N k : Nat} {P : Int} (h : k < N) : (List.replicate k P ++ List.replicate (N - k) 0).set k P = List.replicate (k + 1) P ++ List.replicate (N - (k + 1)) 0 := by
  rw [List.set_append_right _ _ (by simp), List.length_replicate, Nat.sub_self]
  obtain ⟨m, hm⟩ : ∃ m, N - k = m + 1 := ⟨N - k - 1, by omega⟩
  rw [hm, List.replicate_succ, List.set_cons_zero, show N - (k + 1) = m from by omega, List.replicate_succ', List.append_assoc]
  rfl

theorem rep_get {N k : Nat} (P : Int) (h : k < N) : (List.replicate k P ++ List.replicate (N - k) 0)[k]? = some 0 := by
  have h1 : (List.replicate k P).length ≤ k := by simp
  rw [List.getElem?_append_right h1, List.length_replicate, Nat.sub_self, List.getElem?_replicate, if_pos (by omega)]

theorem shl_cost {a b k P M R : Nat} (ha : a ≤ 8) (hb : b ≤ 20) (hk : k = 2 ^ a) (hP : P = 2 ^ b) (hM : M = 256 * a * k) (hR : R = M * P) :
    wrap64 (256 * (a : Int) * 2 ^ a) = (M : Int) ∧ wrap64 ((M : Int) * 2 ^ b) = (R : Int) := by
  have h4 : ((2 : Int) ^ a) = ((2 ^ a : Nat) : Int) := by simp
  have h5 : ((2 : Int) ^ b) = ((2 ^ b : Nat) : Int) := by simp
  have h6 := (wrap_pow b hb).2
  have h7 : k ≤ 256 := by rw [hk]; exact (Nat.pow_le_pow_right (by decide) ha : 2 ^ a ≤ 2 ^ 8)
  rw [h4, h5, ← hk, ← hP]
  rw [← hP] at h6
  clear h4 h5 hk hP
  have e1 : 256 * (a : Int) * (k : Int) = (M : Int) := by rw [hM, Int.natCast_mul, Int.natCast_mul]; rfl
  have e2 : (M : Int) * (P : Int) = (R : Int) := by rw [hR, Int.natCast_mul]
  rw [e1, e2]
  have hMb : M ≤ 524288 := by
    rw [hM]
    calc 256 * a * k ≤ 2048 * 256 := Nat.mul_le_mul (by omega) h7
      _ = 524288 := by decide
  have hRb : R ≤ 524288 * 1048576 := by rw [hR]; exact Nat.mul_le_mul hMb h6
  exact ⟨IntWalk.wrap64_in _ ⟨by omega, by omega⟩, IntWalk.wrap64_in _ ⟨by omega, by omega⟩⟩

theorem len_take {l : List Int} (p : Nat) (h : l.length ≤ 400) : (l.take p).length ≤ 1000000 := by simp; omega
theorem len_drop {l : List Int} (p : Nat) (h : l.length ≤ 400) : (l.drop p).length ≤ 1000000 := by simp; omega

set_option maxRecDepth 100000 in
set_option maxHeartbeats 4000000 in
theorem law_holds (v1 v2 : Value) (l text : List Int) (turn cut a b : Nat) (w : World) (h1 : RdI .i64 w v1 l) (h2 : RdI .u8 w v2 text) (hb2 : ∀ x ∈ text, 0 ≤ x ∧ x ≤ 255) (ht : turn ≤ 255) (hcut : cut ≤ 255) (ha : a ≤ 255) (hb : b ≤ 255) :
    Calls Try.prog 11 #[v1, .int .u8 turn, v2, .int .u8 cut, .int .u8 a, .int .u8 b] w (LawEnd w) := by
  obtain ⟨A1, n, c1, rfl, hn1, -⟩ := h1.form
  obtain ⟨A2, m, c2, rfl, hn2, -⟩ := h2.form
  by_cases hbig : 200 < n ∨ 400 < m ∨ 8 < a ∨ 20 < b
  · clear h1 h2 hn1 hn2 hb2
    have fin : ∀ w5, Keeps w w5 [] → LawEnd w (.returned (.bool true)) w5 := fun w5 kk => ⟨rfl, kk.below⟩
    have HF := Lib.hid fin
    clear fin
    have hc0 : (0 : Int) ≤ (a : Int) := Int.natCast_nonneg _
    by_cases g1 : 200 < n
    · have h1 : (200 : Int) < (n : Int) := by omega
      clear hbig
      go_enter Try.func11, Try.ntmps11
      go_wp2_with (go_at_call 13; refine (works_true _).mono ?_; rintro e w5 ⟨rfl, kk⟩)
      go_ret
      exact HF.out _ kk
    · have d1 : decide ((200 : Int) < (n : Int)) = false := by simp; omega
      by_cases g2 : 400 < m
      · have h1 : (400 : Int) < (m : Int) := by omega
        clear hbig
        go_enter Try.func11, Try.ntmps11
        go_wp2_with (go_at_call 13; refine (works_true _).mono ?_; rintro e w5 ⟨rfl, kk⟩)
        go_ret
        exact HF.out _ kk
      · have d2 : decide ((400 : Int) < (m : Int)) = false := by simp; omega
        by_cases g3 : 8 < a
        · have h1 : (8 : Int) < (a : Int) := by omega
          clear hbig
          go_enter Try.func11, Try.ntmps11
          go_wp2_with (go_at_call 13; refine (works_true _).mono ?_; rintro e w5 ⟨rfl, kk⟩)
          go_ret
          exact HF.out _ kk
        · have d3 : decide ((8 : Int) < (a : Int)) = false := by simp; omega
          have h1 : (20 : Int) < (b : Int) := by omega
          clear hbig
          go_enter Try.func11, Try.ntmps11
          go_wp2_with (go_at_call 13; refine (works_true _).mono ?_; rintro e w5 ⟨rfl, kk⟩)
          go_ret
          exact HF.out _ kk
  · have d1 : decide ((200 : Int) < (n : Int)) = false := by simp; omega
    have d2 : decide ((400 : Int) < (m : Int)) = false := by simp; omega
    have d3 : decide ((8 : Int) < (a : Int)) = false := by simp; omega
    have d4 : decide ((20 : Int) < (b : Int)) = false := by simp; omega
    have hn200 : n ≤ 200 := by omega
    have hm400 : m ≤ 400 := by omega
    have ha8 : a ≤ 8 := by omega
    have hb20 : b ≤ 20 := by omega
    obtain ⟨p, hp⟩ : ∃ p : Nat, p = min cut m := ⟨_, rfl⟩
    have hpi : min (cut : Int) (m : Int) = (p : Int) := by omega
    have hpm : p ≤ m := by omega
    have hp0 : (0 : Int) ≤ (p : Int) := Int.natCast_nonneg _
    have hpm' : (p : Int) ≤ (m : Int) := by omega
    have H1 := Lib.hid h1
    have H2 := Lib.hid h2
    have HN1 := Lib.hid hn1
    have HN2 := Lib.hid hn2
    have HB2 := Lib.hid hb2
    have hcap2 := h2.cap
    have hcap1 := h1.cap
    clear h1 h2 hn1 hn2 hb2 hbig hp
    go_enter Try.func11, Try.ntmps11
    have hml : text.length ≤ 400 := by have := HN2.out; omega
    go_wp2_with fail
    obtain ⟨TP, hTP⟩ : ∃ TP, TP = text.take p := ⟨_, rfl⟩
    obtain ⟨TD, hTD⟩ : ∃ TD, TD = text.drop p := ⟨_, rfl⟩
    have BP : Hid (∀ x ∈ TP, 0 ≤ x ∧ x ≤ 255) := fun x hx => HB2.out x (List.mem_of_mem_take (by rw [← hTP]; exact hx))
    have BD : Hid (∀ x ∈ TD, 0 ≤ x ∧ x ≤ 255) := fun x hx => HB2.out x (List.mem_of_mem_drop (by rw [← hTD]; exact hx))
    have hlp : TP.length ≤ 1000000 := by rw [hTP]; exact len_take p hml
    have hld : TD.length ≤ 1000000 := by rw [hTD]; exact len_drop p hml
    have HTP := Lib.hid hTP
    have HTD := Lib.hid hTD
    clear hTP hTD
    go_cut [14, 15] (fun s14 s15 wx => RdI .i64 wx s14 (histL TP) ∧ RdI .i64 wx s15 (histL TD) ∧ Keeps w wx [])
    case first =>
      have R1 : Hid (RdI .u8 w (.slice A2 p c2) TP) := by rw [HTP.out]; exact H2.out.front hpm
      have kr := Keeps.refl w []
      have hpc : p ≤ c2 := by omega
      have hpc' : (p : Int) ≤ (c2 : Int) := by omega
      have hl2 := HN2.out
      cases A2 with
      | none =>
        obtain ⟨rfl, rfl⟩ : m = 0 ∧ c2 = 0 := H2.out.none_len
        obtain rfl : p = 0 := by omega
        obtain rfl : text = [] := List.length_eq_zero_iff.1 hl2.symm
        clear hl2
        obtain rfl : TP = TD := by rw [HTP.out, HTD.out]; rfl
        go_region_held3 (fun w' => Keeps w w' [])
          (first | exact ‹Keeps w _ []› | exact (Keeps.refl w []).drew | (repeat' first | assumption | refine Keeps.drew ?_ | refine Keeps.alloc ?_ _))
          (first | (go_at_call 15; refine Calls.mono (hist_one (.slice none 0 0) TP _ _ ?_ (R1.out.keeps ‹Keeps w _ []›) BP.out hlp) ?_; (focus (first | (refine Blk.drew (Blk.newAt ?_); simp; done) | (refine Blk.newAt ?_; simp; done) | (refine Blk.drew (Blk.alloc (Blk.newAt ?_) _); simp; done) | (refine Blk.alloc (Blk.newAt ?_) _; simp; done) | (refine zz _ _ _ (Blk.drew (Blk.newAt ?_)); simp; done) | (refine Blk.alloc (zz _ _ _ (Blk.drew (Blk.newAt ?_))) _; simp; done) | (refine zz _ _ _ (Blk.newAt ?_); simp; done) | (refine Blk.alloc (zz _ _ _ (Blk.newAt ?_)) _; simp; done) | (refine zz _ _ _ (Blk.drew (Blk.alloc (Blk.newAt ?_) _)); simp; done) | (refine Blk.alloc (zz _ _ _ (Blk.drew (Blk.alloc (Blk.newAt ?_) _))) _; simp; done) | (refine zz _ _ _ (Blk.alloc (Blk.newAt ?_) _); simp; done) | (refine Blk.alloc (zz _ _ _ (Blk.alloc (Blk.newAt ?_) _)) _; simp; done))); rintro e w' ⟨hr1v, rfl, hr1, kk⟩; obtain ⟨hr1a, hr1n, hr1c, rfl, -⟩ := hr1.form; have zz : ∀ b cs T, Blk _ b cs T → Blk w' b cs T := (fun b cs T h => h.keeps kk (by simp)); have yy : ∀ v l, RdI .i64 _ v l → RdI .i64 w' v l := (fun v l h => h.keeps kk); have qq := Keeps.then ‹Keeps w _ []› kk))
        all_goals
          go_wp2_with fail
          go_meet
          refine ⟨?_, by assumption, by assumption⟩
          first | exact yy _ _ hr1 | (refine yy _ _ ?_; assumption) | (refine yy _ _ (RdI.keeps ?_ ((Keeps.refl _ []).alloc _)); assumption) | (refine yy _ _ (RdI.keeps ?_ (((Keeps.refl _ []).alloc _).drew)); assumption) | exact yy _ _ (hr1.keeps ((Keeps.refl _ []).alloc _)) | exact yy _ _ (hr1.keeps (((Keeps.refl _ []).alloc _).drew)) | exact yy _ _ (hr1.keeps ((Keeps.refl _ []).drew))
      | some ad =>
        by_cases hcp : c2 = p
        · obtain rfl : m = c2 := by omega
          obtain rfl : m = p := by omega
          clear hcp
          have R2 : Hid (RdI .u8 w (.slice (some ad) 0 0) TD) := by
            rw [HTD.out, show text.drop m = [] from by rw [hl2]; simp]
            exact RdI.nothing _ _ (fun e => by cases e)
          clear hl2
          go_region_held3 (fun w' => Keeps w w' [])
            (first | exact ‹Keeps w _ []› | exact (Keeps.refl w []).drew | (repeat' first | assumption | refine Keeps.drew ?_ | refine Keeps.alloc ?_ _))
            (first | (go_at_call 15; refine Calls.mono (hist_one (.slice (some ad) m m) TP _ _ ?_ (R1.out.keeps ‹Keeps w _ []›) BP.out hlp) ?_; (focus (first | (refine Blk.drew (Blk.newAt ?_); simp; done) | (refine Blk.newAt ?_; simp; done) | (refine Blk.drew (Blk.alloc (Blk.newAt ?_) _); simp; done) | (refine Blk.alloc (Blk.newAt ?_) _; simp; done) | (refine zz _ _ _ (Blk.drew (Blk.newAt ?_)); simp; done) | (refine Blk.alloc (zz _ _ _ (Blk.drew (Blk.newAt ?_))) _; simp; done) | (refine zz _ _ _ (Blk.newAt ?_); simp; done) | (refine Blk.alloc (zz _ _ _ (Blk.newAt ?_)) _; simp; done) | (refine zz _ _ _ (Blk.drew (Blk.alloc (Blk.newAt ?_) _)); simp; done) | (refine Blk.alloc (zz _ _ _ (Blk.drew (Blk.alloc (Blk.newAt ?_) _))) _; simp; done) | (refine zz _ _ _ (Blk.alloc (Blk.newAt ?_) _); simp; done) | (refine Blk.alloc (zz _ _ _ (Blk.alloc (Blk.newAt ?_) _)) _; simp; done))); rintro e w' ⟨hr1v, rfl, hr1, kk⟩; obtain ⟨hr1a, hr1n, hr1c, rfl, -⟩ := hr1.form; have zz : ∀ b cs T, Blk _ b cs T → Blk w' b cs T := (fun b cs T h => h.keeps kk (by simp)); have yy : ∀ v l, RdI .i64 _ v l → RdI .i64 w' v l := (fun v l h => h.keeps kk); have qq := Keeps.then ‹Keeps w _ []› kk) | (go_at_call 15; refine Calls.mono (hist_one (.slice (some ad) 0 0) TD _ _ ?_ (R2.out.keeps ‹Keeps w _ []›) BD.out hld) ?_; (focus (first | (refine Blk.drew (Blk.newAt ?_); simp; done) | (refine Blk.newAt ?_; simp; done) | (refine Blk.drew (Blk.alloc (Blk.newAt ?_) _); simp; done) | (refine Blk.alloc (Blk.newAt ?_) _; simp; done) | (refine zz _ _ _ (Blk.drew (Blk.newAt ?_)); simp; done) | (refine Blk.alloc (zz _ _ _ (Blk.drew (Blk.newAt ?_))) _; simp; done) | (refine zz _ _ _ (Blk.newAt ?_); simp; done) | (refine Blk.alloc (zz _ _ _ (Blk.newAt ?_)) _; simp; done) | (refine zz _ _ _ (Blk.drew (Blk.alloc (Blk.newAt ?_) _)); simp; done) | (refine Blk.alloc (zz _ _ _ (Blk.drew (Blk.alloc (Blk.newAt ?_) _))) _; simp; done) | (refine zz _ _ _ (Blk.alloc (Blk.newAt ?_) _); simp; done) | (refine Blk.alloc (zz _ _ _ (Blk.alloc (Blk.newAt ?_) _)) _; simp; done))); rintro e w' ⟨hr2v, rfl, hr2, kk⟩; obtain ⟨hr2a, hr2n, hr2c, rfl, -⟩ := hr2.form; have zz : ∀ b cs T, Blk _ b cs T → Blk w' b cs T := (fun b cs T h => h.keeps kk (by simp)); have yy : ∀ v l, RdI .i64 _ v l → RdI .i64 w' v l := (fun v l h => h.keeps kk); have qq := Keeps.then ‹Keeps w _ []› kk))
          all_goals
            go_wp2_with fail
            go_meet
            refine ⟨?_, by assumption, by assumption⟩
            first | exact yy _ _ hr1 | exact yy _ _ (hr1.keeps ((Keeps.refl _ []).alloc _)) | exact yy _ _ (hr1.keeps (((Keeps.refl _ []).alloc _).drew)) | exact yy _ _ (hr1.keeps ((Keeps.refl _ []).drew))
        · by_cases hm0 : m = 0
          · subst hm0
            obtain rfl : p = 0 := by omega
            obtain ⟨bt, ot, sub⟩ := ad
            obtain rfl : text = [] := List.length_eq_zero_iff.1 hl2.symm
            clear hl2
            obtain rfl : TP = TD := by rw [HTP.out, HTD.out]; rfl
            go_region_held3 (fun w' => Keeps w w' [])
              (first | exact ‹Keeps w _ []› | exact (Keeps.refl w []).drew | (repeat' first | assumption | refine Keeps.drew ?_ | refine Keeps.alloc ?_ _))
              (first | (go_at_call 15; refine Calls.mono (hist_one (.slice (some ⟨bt, ot, sub⟩) 0 c2) TP _ _ ?_ (R1.out.keeps ‹Keeps w _ []›) BP.out hlp) ?_; (focus (first | (refine Blk.drew (Blk.newAt ?_); simp; done) | (refine Blk.newAt ?_; simp; done) | (refine Blk.drew (Blk.alloc (Blk.newAt ?_) _); simp; done) | (refine Blk.alloc (Blk.newAt ?_) _; simp; done) | (refine zz _ _ _ (Blk.drew (Blk.newAt ?_)); simp; done) | (refine Blk.alloc (zz _ _ _ (Blk.drew (Blk.newAt ?_))) _; simp; done) | (refine zz _ _ _ (Blk.newAt ?_); simp; done) | (refine Blk.alloc (zz _ _ _ (Blk.newAt ?_)) _; simp; done) | (refine zz _ _ _ (Blk.drew (Blk.alloc (Blk.newAt ?_) _)); simp; done) | (refine Blk.alloc (zz _ _ _ (Blk.drew (Blk.alloc (Blk.newAt ?_) _))) _; simp; done) | (refine zz _ _ _ (Blk.alloc (Blk.newAt ?_) _); simp; done) | (refine Blk.alloc (zz _ _ _ (Blk.alloc (Blk.newAt ?_) _)) _; simp; done))); rintro e w' ⟨hr1v, rfl, hr1, kk⟩; obtain ⟨hr1a, hr1n, hr1c, rfl, -⟩ := hr1.form; have zz : ∀ b cs T, Blk _ b cs T → Blk w' b cs T := (fun b cs T h => h.keeps kk (by simp)); have yy : ∀ v l, RdI .i64 _ v l → RdI .i64 w' v l := (fun v l h => h.keeps kk); have qq := Keeps.then ‹Keeps w _ []› kk))
            all_goals
              go_wp2_with fail
              go_meet
              refine ⟨?_, by assumption, by assumption⟩
              first | exact yy _ _ hr1 | (refine yy _ _ ?_; assumption) | (refine yy _ _ (RdI.keeps ?_ ((Keeps.refl _ []).alloc _)); assumption) | (refine yy _ _ (RdI.keeps ?_ (((Keeps.refl _ []).alloc _).drew)); assumption) | exact yy _ _ (hr1.keeps ((Keeps.refl _ []).alloc _)) | exact yy _ _ (hr1.keeps (((Keeps.refl _ []).alloc _).drew)) | exact yy _ _ (hr1.keeps ((Keeps.refl _ []).drew))
          · obtain ⟨bt, ot, rfl⟩ : ∃ bt ot, ad = ⟨bt, ot, none⟩ := H2.out.some_addr hm0
            have R2 : Hid (RdI .u8 w (.slice (some ⟨bt, ot + p, none⟩) (m - p) (c2 - p)) TD) := by
              have h1 := H2.out.piece (p := p) (q := m - p) (by omega) (c2 - p) (by omega)
              rw [List.take_of_length_le (by simp; omega)] at h1
              rw [HTD.out]; exact h1
            clear hl2
            go_region_held3 (fun w' => Keeps w w' [])
              (first | exact ‹Keeps w _ []› | exact (Keeps.refl w []).drew | (repeat' first | assumption | refine Keeps.drew ?_ | refine Keeps.alloc ?_ _))
              (first | (go_at_call 15; refine Calls.mono (hist_one (.slice (some ⟨bt, ot, none⟩) p c2) TP _ _ ?_ (R1.out.keeps ‹Keeps w _ []›) BP.out hlp) ?_; (focus (first | (refine Blk.drew (Blk.newAt ?_); simp; done) | (refine Blk.newAt ?_; simp; done) | (refine Blk.drew (Blk.alloc (Blk.newAt ?_) _); simp; done) | (refine Blk.alloc (Blk.newAt ?_) _; simp; done) | (refine zz _ _ _ (Blk.drew (Blk.newAt ?_)); simp; done) | (refine Blk.alloc (zz _ _ _ (Blk.drew (Blk.newAt ?_))) _; simp; done) | (refine zz _ _ _ (Blk.newAt ?_); simp; done) | (refine Blk.alloc (zz _ _ _ (Blk.newAt ?_)) _; simp; done) | (refine zz _ _ _ (Blk.drew (Blk.alloc (Blk.newAt ?_) _)); simp; done) | (refine Blk.alloc (zz _ _ _ (Blk.drew (Blk.alloc (Blk.newAt ?_) _))) _; simp; done) | (refine zz _ _ _ (Blk.alloc (Blk.newAt ?_) _); simp; done) | (refine Blk.alloc (zz _ _ _ (Blk.alloc (Blk.newAt ?_) _)) _; simp; done))); rintro e w' ⟨hr1v, rfl, hr1, kk⟩; obtain ⟨hr1a, hr1n, hr1c, rfl, -⟩ := hr1.form; have zz : ∀ b cs T, Blk _ b cs T → Blk w' b cs T := (fun b cs T h => h.keeps kk (by simp)); have yy : ∀ v l, RdI .i64 _ v l → RdI .i64 w' v l := (fun v l h => h.keeps kk); have qq := Keeps.then ‹Keeps w _ []› kk) | (go_at_call 15; refine Calls.mono (hist_one (.slice (some ⟨bt, ot + p, none⟩) (m - p) (c2 - p)) TD _ _ ?_ (R2.out.keeps ‹Keeps w _ []›) BD.out hld) ?_; (focus (first | (refine Blk.drew (Blk.newAt ?_); simp; done) | (refine Blk.newAt ?_; simp; done) | (refine Blk.drew (Blk.alloc (Blk.newAt ?_) _); simp; done) | (refine Blk.alloc (Blk.newAt ?_) _; simp; done) | (refine zz _ _ _ (Blk.drew (Blk.newAt ?_)); simp; done) | (refine Blk.alloc (zz _ _ _ (Blk.drew (Blk.newAt ?_))) _; simp; done) | (refine zz _ _ _ (Blk.newAt ?_); simp; done) | (refine Blk.alloc (zz _ _ _ (Blk.newAt ?_)) _; simp; done) | (refine zz _ _ _ (Blk.drew (Blk.alloc (Blk.newAt ?_) _)); simp; done) | (refine Blk.alloc (zz _ _ _ (Blk.drew (Blk.alloc (Blk.newAt ?_) _))) _; simp; done) | (refine zz _ _ _ (Blk.alloc (Blk.newAt ?_) _); simp; done) | (refine Blk.alloc (zz _ _ _ (Blk.alloc (Blk.newAt ?_) _)) _; simp; done))); rintro e w' ⟨hr2v, rfl, hr2, kk⟩; obtain ⟨hr2a, hr2n, hr2c, rfl, -⟩ := hr2.form; have zz : ∀ b cs T, Blk _ b cs T → Blk w' b cs T := (fun b cs T h => h.keeps kk (by simp)); have yy : ∀ v l, RdI .i64 _ v l → RdI .i64 w' v l := (fun v l h => h.keeps kk); have qq := Keeps.then ‹Keeps w _ []› kk))
            all_goals
              go_wp2_with fail
              go_meet
              refine ⟨?_, by assumption, by assumption⟩
              first | exact yy _ _ hr1 | exact yy _ _ (hr1.keeps ((Keeps.refl _ []).alloc _)) | exact yy _ _ (hr1.keeps (((Keeps.refl _ []).alloc _).drew)) | exact yy _ _ (hr1.keeps ((Keeps.refl _ []).drew))
    case rest =>
      obtain ⟨rx, ry, kw⟩ := hcut
      rw [HTP.out] at rx
      rw [HTD.out] at ry
      clear BP BD hlp hld HTP HTD
      have htk : ∀ x ∈ text.take p, 0 ≤ x ∧ x ≤ 255 := fun x hx => HB2.out x (List.mem_of_mem_take hx)
      have hdk : ∀ x ∈ text.drop p, 0 ≤ x ∧ x ≤ 255 := fun x hx => HB2.out x (List.mem_of_mem_drop hx)
      have hll : (text.take p).length + (text.drop p).length ≤ 100000 := by simp; omega
      have hadd := histL_add htk hdk hll
      rw [List.take_append_drop] at hadd
      have RX := Lib.hid rx
      have RY := Lib.hid ry
      have hok := histL_ok htk hdk hll
      obtain ⟨ax, nx, cx, rfl, -⟩ := rx.form
      obtain ⟨ay, ny, cy, rfl, -⟩ := ry.form
      go_wp2_with fail
      refine (add_call _ _ (histL (text.take p)) (histL (text.drop p)) _ RX.out RY.out (by rw [histL_len]; decide) (by rw [histL_len]; decide)).mono ?_
      intro e w1 hend
      obtain ⟨vz, rfl, ownz, kk1⟩ := hend.1 hok
      obtain ⟨az, cz, rfl⟩ := own_form ownz
      have rz := own_reads ownz
      have kw1 := kw.then kk1
      clear ownz
      generalize (addL (histL (List.take p text)) (histL (List.drop p text))).length = nz at *
      rw [hadd] at rz
      have h2w := H2.out.keeps kw1
      clear hend hok htk hdk hll hadd RX RY rx ry kk1 kw
      go_wp2_with (go_at_call 19; refine (num_any _ _).mono ?_; rintro e w' ⟨rfl, rfl⟩)
      have hz : text.length ≤ 1000000 := by omega
      have hq := hist_one (.slice A2 m c2) text (w'.alloc (.cells #[.slice A2 m c2] 22)) w'.heap.size (Blk.new _ _ _) (h2w.keeps ((Keeps.refl _ []).alloc _)) HB2.out hz
      refine hq.mono ?_
      clear hq
      rintro e w2 ⟨vh, rfl, rh, kk2⟩
      obtain ⟨ah, nh, ch, rfl, -⟩ := rh.form
      have kw2 := (kw1.alloc _).then kk2
      have rz2 := (rz.keeps ((Keeps.refl _ []).alloc _)).keeps kk2
      clear rz kk2 h2w kw1
      go_wp2_with fail
      have hq0 : (histL text).length ≤ 1000000 := by rw [histL_len]; decide
      have hq := same_yes (.slice az nz cz) (.slice ah nh ch) (histL text) w2 rz2 rh hq0
      refine hq.mono ?_
      clear hq hq0
      rintro e w3 ⟨rfl, nd, rfl⟩
      have kw3 := kw2.drewN nd
      clear rz2 rh kw2
      generalize w2.drewN nd = w3 at *
      obtain ⟨hpa, hpa1⟩ := wrap_pow a (by omega)
      obtain ⟨hpb, hpb1⟩ := wrap_pow b hb20
      have hmk := make_pow a ha8 w3
      have hco := Lib.hid (even_cost a b)
      have hri := Lib.hid (even_right ha8 hb20)
      have hN256 : 2 ^ a ≤ 256 := by rcases nine ha8 with rfl | rfl | rfl | rfl | rfl | rfl | rfl | rfl | rfl <;> decide
      obtain ⟨N, hN⟩ : ∃ N, N = 2 ^ a := ⟨_, rfl⟩
      obtain ⟨P, hP⟩ : ∃ P, P = 2 ^ b := ⟨_, rfl⟩
      rw [← hN] at hpa hmk hco hri hN256 hpa1
      rw [← hP] at hpb hco hri hpb1
      have HN' := Lib.hid hN
      have HP' := Lib.hid hP
      have HPB := Lib.hid hpb
      clear hN hP hpa1 hpb
      have b0 := Blk.new w3 (ints (List.replicate N 0)) 3
      have k0 := kw3.alloc (.cells (ints (List.replicate N 0)) 3)
      go_wp2_with fail
      clear hpa hmk
      go_loopw [19] (fun i wr => ∃ k : Nat, k ≤ N ∧ i = .int .i64 k ∧ Blk wr w3.heap.size (ints (List.replicate k ((P : Nat) : Int) ++ List.replicate (N - k) 0)) 3 ∧ Keeps w wr []) (fun i _ => N - (intOf i).toNat)
      case atStart => exact ⟨0, Nat.zero_le _, rfl, by simpa using b0, k0⟩
      case round =>
        obtain ⟨k, hk, rfl, bk, kk⟩ := hrel
        by_cases hlt : k < N
        · have hkn : (k : Int) < (N : Int) := by omega
          have hk0 : (0 : Int) ≤ (k : Int) := Int.natCast_nonneg _
          have hget := rep_get ((P : Nat) : Int) hlt
          have hcell := (bk.cell k).trans (ints_get hget)
          have hf := bk.frozen k
          have BS := Lib.hid (bk.set k (.int .i64 ((P : Nat) : Int)))
          have KS := Lib.hid (kk.setCell (a := ⟨w3.heap.size, k, none⟩) (.inl kw3.size) (.int .i64 ((P : Nat) : Int)))
          clear hget bk kk b0 k0
          have hpb := HPB.out
          go_wp2_with fail
          clear hpb
          go_roundw
          case rel =>
            refine ⟨k + 1, by omega, by go_num, ?_, KS.out⟩
            have h1 := BS.out
            rw [ints_set] at h1
            rw [rep_set (by omega)] at h1
            exact h1
          case measure => simp [intOf]; omega
        · have : k = N := by omega
          subst this
          have rE : RdI .i64 wr (.slice (some ⟨w3.heap.size, 0, none⟩) k k) (List.replicate k ((P : Nat) : Int)) := by
            have h1 := bk
            rw [Nat.sub_self, List.replicate_zero, List.append_nil] at h1
            have h2 := blk_nums (k := .i64) h1
            rw [List.length_replicate] at h2
            exact h2
          clear bk b0 k0
          go_wp2_with fail
          obtain ⟨M, hM⟩ : ∃ M : Nat, M = 256 * a * k := ⟨_, rfl⟩
          obtain ⟨R, hR⟩ : ∃ R : Nat, R = M * P := ⟨_, rfl⟩
          have hsh := shl_cost ha8 hb20 HN'.out HP'.out hM hR
          rw [← hM, ← hR] at hco
          refine (cost_call _ (List.replicate k ((P : Nat) : Int)) wr rE (by rw [List.length_replicate]; omega)).mono ?_
          rw [hri.out, hco.out]
          clear hM hR
          rintro e w4 ⟨rfl, kk4⟩
          obtain ⟨hsh1, hsh2⟩ := hsh
          have kw4 := kk.then kk4
          clear rE kk4 kk
          go_wp2_with (go_at_call 23; refine (is_yes _ _).mono ?_; rintro e w' ⟨rfl, rfl⟩)
          have hl200 : l.length ≤ 1000000 := by have := HN1.out; omega
          refine (check_any _ l _ (H1.out.keeps kw4) hl200).mono ?_
          clear HPB HP' HN' hpb1 hN256 hri hco hk hlt hsh1 hsh2
          cases hrl : rightL l with
          | false =>
            clear hrl
            rintro e w5 ⟨rfl, rfl⟩
            go_wp2_with (first | (go_at_call 19; refine (num_any _ _).mono ?_; rintro e w' ⟨rfl, rfl⟩) | (go_at_call 13; refine (works_true _).mono ?_; rintro e w6 ⟨rfl, kk6⟩))
            go_ret
            exact ⟨rfl, (kw4.then kk6).below⟩
          | true =>
            have HRL := Lib.hid hrl
            clear hrl
            rintro e w5 ⟨rfl, rfl⟩
            obtain ⟨q, hq⟩ : ∃ q : Nat, q = max 1 n := ⟨_, rfl⟩
            have hq1 : 1 ≤ q := by omega
            have hqi : max (1 : Int) (n : Int) = (q : Int) := by omega
            obtain ⟨r, hr⟩ : ∃ r : Nat, r = turn % q := ⟨_, rfl⟩
            have hri : (turn : Int) % (q : Int) = (r : Int) := by rw [hr]; exact (Int.natCast_emod turn q).symm
            have hrq : r < q := by rw [hr]; exact Nat.mod_lt _ hq1
            have hrn : r ≤ n := by omega
            have hr0 : r = 0 ∨ r < n := by omega
            clear hr
            have HQ := Lib.hid hq
            have HR0 := Lib.hid hr0
            have hr00 : (0 : Int) ≤ (r : Int) := Int.natCast_nonneg _
            have hrn' : (r : Int) ≤ (n : Int) := by omega
            clear hq hr0
            go_wp2_with (first | (go_at_call 19; refine (num_any _ _).mono ?_; rintro e w' ⟨rfl, rfl⟩))
            obtain ⟨i0, hi, hz0, hz1, hz2⟩ := info_parts Try.infoInt
            have hl0 := HN1.out
            have hln : l.length ≤ 200 := by omega
            obtain ⟨LD, hLD⟩ : ∃ LD, LD = l.drop r := ⟨_, rfl⟩
            obtain ⟨LT, hLT⟩ : ∃ LT, LT = l.take r := ⟨_, rfl⟩
            have hdl : LD.length ≤ 200 := by rw [hLD]; simp; omega
            have htl : LT.length ≤ 200 := by rw [hLT]; simp; omega
            have HLD := Lib.hid hLD
            have HLT := Lib.hid hLT
            clear hLD hLT
            have HT := Lib.hid (H1.out.keeps kw4)
            generalize w' = wt at *
            rw [hri]
            clear hri hqi
            go_cut [23] (fun s23 wx => wx.ownsRow wt.heap.size 3 1 s23 (LD.length + LT.length) (LD.map (Value.int .i64) ++ LT.map (Value.int .i64)) ∧ Keeps wt wx [])
            case first =>
              have R0 := HT.out
              have kr := Keeps.refl wt []
              clear hl0
              cases A1 with
              | none =>
                obtain ⟨rfl, rfl, hl⟩ := R0.nilcap
                obtain rfl : r = 0 := by omega
                have RS1 : Hid (RdI .i64 wt (.slice none 0 0) LD) := by rw [HLD.out, hl]; exact RdI.nil
                have RS2 : Hid (RdI .i64 wt (.slice none 0 0) LT) := by rw [HLT.out, hl]; exact RdI.nil
                clear R0 hl
                go_region_held3 (fun w' => Keeps wt w' [])
                (first | exact ‹Keeps wt _ []› | (repeat' first | assumption | refine Keeps.drew ?_ | refine Keeps.alloc ?_ _ | exact Keeps.refl wt []))
                (first
                  | (refine step_appendI rfl (.tmp 121) (.tmp 124) 26 (by rfl) wt.heap.size 3 i0 (.int .i64 0) 8 Try.underlying26 hi hz0 hz1 hz2 rfl (.slice (some ⟨wt.heap.size, 0, none⟩) 0 0) 0 [] (by rfl) (by first | exact own_build0 wt _ _ | exact own_build0 wt.drew _ _ | exact World.ownsRow.drew (own_build0 wt _ _)) (.slice none 0 0) (by rfl) .i64 LD (RS1.out.keeps ‹Keeps wt _ []›) (by unfold maxLen; omega) (by omega) (by simp) ?_; intro v1 w1 hown1 hg1; rw [Nat.zero_add, List.nil_append] at hown1; obtain ⟨ad1, cp1, rfl⟩ := own_form hown1; have qq : Keeps wt w1 [] := Keeps.trans ‹Keeps wt _ []› (Keeps.of_grown (S := [wt.heap.size]) hg1 (fun j hj => by cases hj; simp)) (fun j hj hlt => by have := List.mem_singleton.1 hj; omega))
                  | (refine step_appendI rfl (.tmp 125) (.tmp 128) 26 (by rfl) wt.heap.size 3 i0 (.int .i64 0) 8 Try.underlying26 hi hz0 hz1 hz2 rfl (.slice ad1 LD.length cp1) LD.length (LD.map (Value.int .i64)) (by rfl) (by first | exact hown1 | exact hown1.drew) (.slice none 0 0) (by rfl) .i64 LT (RS2.out.keeps ‹Keeps wt _ []›) (by unfold maxLen; omega) (by omega) (by have := qq.size; simp; omega) ?_; intro v2 w2 hown2 hg2; obtain ⟨ad2, cp2, rfl⟩ := own_form hown2; have qq2 : Keeps wt w2 [] := Keeps.trans ‹Keeps wt _ []› (Keeps.of_grown (S := (Value.ownBlock (.slice ad1 LD.length cp1)).toList) hg2 (fun j hj => by simpa using hj)) (fun j hj hlt => by have h4 := (hown1.lt j (by simpa using hj)).1; omega)))
                go_wp2_with fail
                go_meet
                exact ⟨hown2, qq2⟩
              | some ad =>
                by_cases hc0 : c1 = 0
                · obtain rfl : n = 0 := by omega
                  subst hc0
                  obtain rfl : r = 0 := by omega
                  have hl : l = [] := List.length_eq_zero_iff.1 R0.len.symm
                  have RS1 : Hid (RdI .i64 wt (.slice (some ad) 0 0) LD) := by rw [HLD.out, hl]; exact RdI.zero _ _
                  have RS2 : Hid (RdI .i64 wt (.slice (some ad) 0 0) LT) := by rw [HLT.out, hl]; exact RdI.zero _ _
                  clear R0 hl
                  go_region_held3 (fun w' => Keeps wt w' [])
                  (first | exact ‹Keeps wt _ []› | (repeat' first | assumption | refine Keeps.drew ?_ | refine Keeps.alloc ?_ _ | exact Keeps.refl wt []))
                  (first
                    | (refine step_appendI rfl (.tmp 121) (.tmp 124) 26 (by rfl) wt.heap.size 3 i0 (.int .i64 0) 8 Try.underlying26 hi hz0 hz1 hz2 rfl (.slice (some ⟨wt.heap.size, 0, none⟩) 0 0) 0 [] (by rfl) (by first | exact own_build0 wt _ _ | exact own_build0 wt.drew _ _ | exact World.ownsRow.drew (own_build0 wt _ _)) (.slice (some ad) 0 0) (by rfl) .i64 LD (RS1.out.keeps ‹Keeps wt _ []›) (by unfold maxLen; omega) (by omega) (by simp) ?_; intro v1 w1 hown1 hg1; rw [Nat.zero_add, List.nil_append] at hown1; obtain ⟨ad1, cp1, rfl⟩ := own_form hown1; have qq : Keeps wt w1 [] := Keeps.trans ‹Keeps wt _ []› (Keeps.of_grown (S := [wt.heap.size]) hg1 (fun j hj => by cases hj; simp)) (fun j hj hlt => by have := List.mem_singleton.1 hj; omega))
                    | (refine step_appendI rfl (.tmp 125) (.tmp 128) 26 (by rfl) wt.heap.size 3 i0 (.int .i64 0) 8 Try.underlying26 hi hz0 hz1 hz2 rfl (.slice ad1 LD.length cp1) LD.length (LD.map (Value.int .i64)) (by rfl) (by first | exact hown1 | exact hown1.drew) (.slice (some ad) 0 0) (by rfl) .i64 LT (RS2.out.keeps ‹Keeps wt _ []›) (by unfold maxLen; omega) (by omega) (by have := qq.size; simp; omega) ?_; intro v2 w2 hown2 hg2; obtain ⟨ad2, cp2, rfl⟩ := own_form hown2; have qq2 : Keeps wt w2 [] := Keeps.trans ‹Keeps wt _ []› (Keeps.of_grown (S := (Value.ownBlock (.slice ad1 LD.length cp1)).toList) hg2 (fun j hj => by simpa using hj)) (fun j hj hlt => by have h4 := (hown1.lt j (by simpa using hj)).1; omega)))
                  go_wp2_with fail
                  go_meet
                  exact ⟨hown2, qq2⟩
                · by_cases hn0 : n = 0
                  · subst hn0
                    obtain rfl : r = 0 := by omega
                    obtain ⟨bt, ot, sub⟩ := ad
                    have hl : l = [] := List.length_eq_zero_iff.1 R0.len.symm
                    have RS1 : Hid (RdI .i64 wt (.slice (some ⟨bt, ot, sub⟩) 0 c1) LD) := by rw [HLD.out, hl]; exact RdI.zero _ _
                    have RS2 : Hid (RdI .i64 wt (.slice (some ⟨bt, ot, sub⟩) 0 c1) LT) := by rw [HLT.out, hl]; exact RdI.zero _ _
                    clear R0 hl
                    go_region_held3 (fun w' => Keeps wt w' [])
                    (first | exact ‹Keeps wt _ []› | (repeat' first | assumption | refine Keeps.drew ?_ | refine Keeps.alloc ?_ _ | exact Keeps.refl wt []))
                    (first
                      | (refine step_appendI rfl (.tmp 121) (.tmp 124) 26 (by rfl) wt.heap.size 3 i0 (.int .i64 0) 8 Try.underlying26 hi hz0 hz1 hz2 rfl (.slice (some ⟨wt.heap.size, 0, none⟩) 0 0) 0 [] (by rfl) (by first | exact own_build0 wt _ _ | exact own_build0 wt.drew _ _ | exact World.ownsRow.drew (own_build0 wt _ _)) (.slice (some ⟨bt, ot, sub⟩) 0 c1) (by rfl) .i64 LD (RS1.out.keeps ‹Keeps wt _ []›) (by unfold maxLen; omega) (by omega) (by simp) ?_; intro v1 w1 hown1 hg1; rw [Nat.zero_add, List.nil_append] at hown1; obtain ⟨ad1, cp1, rfl⟩ := own_form hown1; have qq : Keeps wt w1 [] := Keeps.trans ‹Keeps wt _ []› (Keeps.of_grown (S := [wt.heap.size]) hg1 (fun j hj => by cases hj; simp)) (fun j hj hlt => by have := List.mem_singleton.1 hj; omega))
                      | (refine step_appendI rfl (.tmp 125) (.tmp 128) 26 (by rfl) wt.heap.size 3 i0 (.int .i64 0) 8 Try.underlying26 hi hz0 hz1 hz2 rfl (.slice ad1 LD.length cp1) LD.length (LD.map (Value.int .i64)) (by rfl) (by first | exact hown1 | exact hown1.drew) (.slice (some ⟨bt, ot, sub⟩) 0 c1) (by rfl) .i64 LT (RS2.out.keeps ‹Keeps wt _ []›) (by unfold maxLen; omega) (by omega) (by have := qq.size; simp; omega) ?_; intro v2 w2 hown2 hg2; obtain ⟨ad2, cp2, rfl⟩ := own_form hown2; have qq2 : Keeps wt w2 [] := Keeps.trans ‹Keeps wt _ []› (Keeps.of_grown (S := (Value.ownBlock (.slice ad1 LD.length cp1)).toList) hg2 (fun j hj => by simpa using hj)) (fun j hj hlt => by have h4 := (hown1.lt j (by simpa using hj)).1; omega)))
                    go_wp2_with fail
                    go_meet
                    exact ⟨hown2, qq2⟩
                  · obtain ⟨bt, ot, rfl⟩ : ∃ bt ot, ad = ⟨bt, ot, none⟩ := R0.some_addr hn0
                    have hrlt : r < n := by have := HR0.out; omega
                    have hrc : r ≤ c1 := by omega
                    have hrc' : (r : Int) ≤ (c1 : Int) := by omega
                    have hcr : ¬ c1 = r := by omega
                    have RS1 : Hid (RdI .i64 wt (.slice (some ⟨bt, ot + r, none⟩) (n - r) (c1 - r)) LD) := by
                      have h1 := R0.piece (p := r) (q := n - r) (by omega) (c1 - r) (by omega)
                      rw [List.take_of_length_le (by simp; have := R0.len; omega)] at h1
                      rw [HLD.out]; exact h1
                    have RS2 : Hid (RdI .i64 wt (.slice (some ⟨bt, ot, none⟩) r c1) LT) := by rw [HLT.out]; exact R0.front hrn
                    clear R0
                    go_region_held3 (fun w' => Keeps wt w' [])
                    (first | exact ‹Keeps wt _ []› | (repeat' first | assumption | refine Keeps.drew ?_ | refine Keeps.alloc ?_ _ | exact Keeps.refl wt []))
                    (first
                      | (refine step_appendI rfl (.tmp 121) (.tmp 124) 26 (by rfl) wt.heap.size 3 i0 (.int .i64 0) 8 Try.underlying26 hi hz0 hz1 hz2 rfl (.slice (some ⟨wt.heap.size, 0, none⟩) 0 0) 0 [] (by rfl) (by first | exact own_build0 wt _ _ | exact own_build0 wt.drew _ _ | exact World.ownsRow.drew (own_build0 wt _ _)) (.slice (some ⟨bt, ot + r, none⟩) (n - r) (c1 - r)) (by rfl) .i64 LD (RS1.out.keeps ‹Keeps wt _ []›) (by unfold maxLen; omega) (by omega) (by simp) ?_; intro v1 w1 hown1 hg1; rw [Nat.zero_add, List.nil_append] at hown1; obtain ⟨ad1, cp1, rfl⟩ := own_form hown1; have qq : Keeps wt w1 [] := Keeps.trans ‹Keeps wt _ []› (Keeps.of_grown (S := [wt.heap.size]) hg1 (fun j hj => by cases hj; simp)) (fun j hj hlt => by have := List.mem_singleton.1 hj; omega))
                      | (refine step_appendI rfl (.tmp 125) (.tmp 128) 26 (by rfl) wt.heap.size 3 i0 (.int .i64 0) 8 Try.underlying26 hi hz0 hz1 hz2 rfl (.slice ad1 LD.length cp1) LD.length (LD.map (Value.int .i64)) (by rfl) (by first | exact hown1 | exact hown1.drew) (.slice (some ⟨bt, ot, none⟩) r c1) (by rfl) .i64 LT (RS2.out.keeps ‹Keeps wt _ []›) (by unfold maxLen; omega) (by omega) (by have := qq.size; simp; omega) ?_; intro v2 w2 hown2 hg2; obtain ⟨ad2, cp2, rfl⟩ := own_form hown2; have qq2 : Keeps wt w2 [] := Keeps.trans ‹Keeps wt _ []› (Keeps.of_grown (S := (Value.ownBlock (.slice ad1 LD.length cp1)).toList) hg2 (fun j hj => by simpa using hj)) (fun j hj hlt => by have h4 := (hown1.lt j (by simpa using hj)).1; omega)))
                    go_wp2_with fail
                    go_meet
                    exact ⟨hown2, qq2⟩
            case rest =>
              obtain ⟨own, kx⟩ := hcut
              obtain ⟨TL, hTL⟩ : ∃ TL, TL = LD ++ LT := ⟨_, rfl⟩
              have hTn : TL.length = LD.length + LT.length := by rw [hTL]; simp
              have hTl : TL.length ≤ 400 := by omega
              rw [← List.map_append, ← hTL, ← hTn] at own
              have HTL := Lib.hid hTL
              clear hTL hTn hdl htl hl0
              obtain ⟨adt, cpt, rfl⟩ := own_form own
              obtain ⟨N, hN⟩ : ∃ N, N = TL.length := ⟨_, rfl⟩
              rw [← hN] at own hTl ⊢
              have HNT := Lib.hid hN
              clear hN
              go_wp2_with fail
              go_loopw [24] (fun i wr => ∃ j : Nat, j ≤ N / 2 ∧ i = .int .i64 j ∧ wr.ownsRow wt.heap.size 3 1 (.slice adt N cpt) N ((revK TL j).map (Value.int .i64)) ∧ Keeps wt wr []) (fun i _ => N / 2 - (intOf i).toNat)
              case atStart => exact ⟨0, Nat.zero_le _, rfl, by rw [revK_zero]; exact own, kx⟩
              case round =>
                obtain ⟨j, hj, rfl, own, kx⟩ := hrel
                by_cases hlt : j < N / 2
                · obtain ⟨g, rfl⟩ : ∃ g, adt = some ⟨g, 0, none⟩ := by
                    rcases own.2 with ⟨h1, h2⟩ | ⟨g, cap, cur, h1, -⟩
                    · omega
                    · cases h1; exact ⟨_, rfl⟩
                  have hcapt : N ≤ cpt := by
                    rcases own.2 with ⟨h1, h2⟩ | ⟨g', cap, cur, h1, -, -, h4, -⟩
                    · cases h1
                    · cases h1; exact h4
                  have e1 := revK_get TL j j (by have := HNT.out; omega)
                  have e2 := revK_get TL j (N - 1 - j) (by have := HNT.out; omega)
                  rw [if_neg (by have := HNT.out; omega)] at e1 e2
                  have cA := (own.cellAt j (by omega)).trans (by rw [List.getElem?_map, e1])
                  have cB := (own.cellAt (N - 1 - j) (by omega)).trans (by rw [List.getElem?_map, e2])
                  have f1 := own.frozenAt j
                  have f2 := own.frozenAt (N - 1 - j)
                  have hst := revK_step TL j (by have := HNT.out; omega)
                  rw [← HNT.out] at hst
                  generalize TL.getD j 0 = x1 at *
                  generalize TL.getD (N - 1 - j) 0 = x2 at *
                  have hjn : (j : Int) < (N : Int) := by omega
                  have hj0 : (0 : Int) ≤ (j : Int) := Int.natCast_nonneg _
                  have hj2 : (j : Int) < (N : Int) / 2 := by omega
                  have hne : ¬ j = N - 1 - j := by omega
                  have hne' : ¬ N - 1 - j = j := by omega
                  have HST := Lib.hid hst
                  have OWN := Lib.hid (((own.stored j (.int .i64 x2)).1.stored (N - 1 - j) (.int .i64 x1)).1)
                  have hgt := (own.lt g rfl).1
                  have KX := Lib.hid (((kx.setCell (a := ⟨g, j, none⟩) (.inl hgt) (.int .i64 x2)).setCell (a := ⟨g, N - 1 - j, none⟩) (.inl hgt) (.int .i64 x1)).drew)
                  clear e1 e2 hst own kx
                  go_wp2_with fail
                  go_region
                  go_wp2_with fail
                  go_roundw
                  case rel =>
                    refine ⟨j + 1, by omega, by go_num, ?_, KX.out⟩
                    have h1 := OWN.out
                    rw [← List.map_set, ← List.map_set, ← HST.out] at h1
                    exact h1
                  case measure => simp [intOf]; omega
                · have : j = N / 2 := by omega
                  subst this
                  have RT : RdI .i64 wr (.slice adt N cpt) TL.reverse := by
                    have h1 := own
                    rw [show N / 2 = TL.length / 2 from by rw [HNT.out], revK_done] at h1
                    have h2 := own_reads (l := TL.reverse) (by rw [List.length_reverse, ← HNT.out]; exact h1)
                    exact h2
                  have hcb := cost_nonneg HRL.out
                  have hco1 : Hid (1 < (usedL l).length ∨ costL l = 0) := by
                    by_cases hu : 1 < (usedL l).length
                    · exact .inl hu
                    · exact .inr (cost_one HRL.out (by omega))
                  have hU := usedL_len l
                  have htr : Hid (rightL (TL.reverse ++ [0, 0, 0]) = true) := by
                    have h1 := turn_right r HRL.out hln
                    unfold turnL at h1
                    rw [← HLD.out, ← HLT.out, ← HTL.out] at h1
                    exact h1
                  have htc : Hid (costL (TL.reverse ++ [0, 0, 0]) = costL l) := by
                    have h1 := turn_cost l r
                    unfold turnL at h1
                    rw [← HLD.out, ← HLT.out, ← HTL.out] at h1
                    exact h1
                  have hxl : TL.reverse.length = N := by rw [List.length_reverse]; exact HNT.out.symm
                  have own2 : wr.ownsRow wt.heap.size 3 1 (.slice adt N cpt) N (TL.reverse.map (Value.int .i64)) := by
                    have h1 := own
                    rw [show N / 2 = TL.length / 2 from by rw [HNT.out], revK_done] at h1
                    exact h1
                  have OWN2 := Lib.hid own2
                  have HXL := Lib.hid hxl
                  clear own own2 hxl RT
                  go_wp2_with fail
                  refine (cost_call _ l wr (HT.out.keeps kx) hl200).mono ?_
                  rw [HRL.out, if_pos rfl, if_pos rfl]
                  rintro e w5 ⟨rfl, kk5⟩
                  have own5 := own_keeps OWN2.out kk5
                  have hw5 := (kx.then kk5).size
                  go_wp2_with (first | (at_builtin; refine wpList_append_own _ rfl _ _ 26 rfl wt.heap.size 3 i0 (.int .i64 0) 1 8 Try.underlying26 hi hz0 hz1 hz2 rfl (by decide) (.slice adt N cpt) N _ rfl (own5.alloc _) ⟨w5.heap.size, 0, none⟩ 3 3 [.int .i64 0, .int .i64 0, .int .i64 0] rfl rfl (World.news_of_block (cs := #[.int .i64 0, .int .i64 0, .int .i64 0]) (t := 3) (fr := (0, 0)) (heap_alloc_new w5 _)) (by simp [Value.oneCell']) (by unfold maxLen; omega) (by omega) (by simp; omega) ?_; intro v6 w6 hown6 hg6 _; obtain ⟨a6, c6, rfl⟩ := own_form hown6))
                  have k6 : Keeps wt w6 [] := by
                    refine Keeps.trans ((kx.then kk5).alloc _) (Keeps.of_grown (S := (Value.ownBlock (.slice adt N cpt)).toList) hg6 (fun q hq => by simpa using hq)) (fun q hq hlt2 => ?_)
                    have hq' : Value.ownBlock (.slice adt N cpt) = some q := by simpa using hq
                    have := (own5.lt q hq').1
                    omega
                  have r6 : RdI .i64 w6 (.slice a6 (N + 3) c6) (TL.reverse ++ [0, 0, 0]) := own_reads (by rw [List.length_append, HXL.out, List.map_append]; exact hown6)
                  have R6 := Lib.hid r6
                  clear hown6 hg6 own5 r6
                  refine (cost_call _ _ w6 R6.out (by rw [List.length_append, HXL.out]; simp; omega)).mono ?_
                  rw [htr.out, htc.out, if_pos rfl, if_pos rfl]
                  rintro e w7 ⟨rfl, kk7⟩
                  have kz := kw4.then (k6.then kk7)
                  have hdi := distinct_call _ l w7 (HT.out.keeps (k6.then kk7)) hl200
                  rw [HRL.out, if_pos rfl, if_pos rfl] at hdi
                  generalize costL l = CL at *
                  obtain ⟨U, hU'⟩ : ∃ U, U = (usedL l).length := ⟨_, rfl⟩
                  rw [← hU'] at hdi hco1
                  have HDI := Lib.hid hdi
                  clear hU' hU hdi htr htc R6
                  go_wp2_with fail
                  refine HDI.out.mono ?_
                  rintro e w8 ⟨rfl, kk8⟩
                  have kf := kz.then kk8
                  obtain ⟨hcb0, hcb1⟩ := hcb
                  clear HDI kz kk8 kk7 k6 kk5 kx
                  by_cases hu : 1 < U
                  · have hu' : (1 : Int) < (U : Int) := by omega
                    go_wp2_with (first | (go_at_call 19; refine (num_any _ _).mono ?_; rintro e w' ⟨rfl, rfl⟩) | (go_at_call 13; refine (works_true _).mono ?_; rintro e w9 ⟨rfl, kk9⟩))
                    go_ret
                    exact ⟨rfl, (kf.then kk9).below⟩
                  · have hu' : decide ((1 : Int) < (U : Int)) = false := by simp; omega
                    obtain rfl : CL = 0 := by rcases hco1.out with h | h; omega; exact h
                    go_wp2_with (first | (go_at_call 19; refine (num_any _ _).mono ?_; rintro e w' ⟨rfl, rfl⟩) | (go_at_call 13; refine (works_true _).mono ?_; rintro e w9 ⟨rfl, kk9⟩))
                    go_ret
                    exact ⟨rfl, (kf.then kk9).below⟩

end Go.Proofs.Ytedojgbjfenmaaa
