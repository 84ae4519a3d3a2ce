/-
  repeat.States: its iterator's contract.
-/
import Derived.Test.YtldbiohahkcpnaaRA
import Derived.Test.YtldbiohahkcpnaaW6
import Derived.Shelf.Abstract
namespace Go.Proofs.Ytldbiohahkcpnaa
set_option linter.unusedVariables false
set_option linter.unusedSimpArgs false
open Go.RowKit Go.Shelf

attribute [local go_sem] Oper.semAt_some

/-- The repeat offsets behind each sequence, as far as they are valid. -/
def statesL : Int → Int → Int → List I3 → List I3
  | _, _, _, [] => []
  | a, b, c, x :: l =>
    if ofFine a b c x.1 x.2.2 then (toldO a b c x.1 x.2.2, updB a b (toldK x.1 x.2.2), updC b c (toldK x.1 x.2.2)) :: statesL (toldO a b c x.1 x.2.2) (updB a b (toldK x.1 x.2.2)) (updC b c (toldK x.1 x.2.2)) l
    else []

theorem upto_next {α : Type} {f : Nat → α} {k n : Nat} {x : α} (h : upto f k ++ [x] <+: upto f n) : k < n ∧ x = f k := by
  have hl := h.length_le
  simp only [List.length_append, upto_length, List.length_cons, List.length_nil] at hl
  refine ⟨by omega, ?_⟩
  have h2 : upto f k ++ [f k] <+: upto f n := by rw [← upto_succ]; exact upto_prefix f (by omega)
  have h3 := (List.prefix_iff_eq_take.1 h).trans ((by simp [upto_length]) : _ = List.take (upto f k ++ [f k]).length (upto f n))
  rw [← List.prefix_iff_eq_take.1 h2] at h3
  simpa using h3

set_option maxHeartbeats 1000000 in
theorem all_raw (a : Option Addr) (n cp : Nat) (w : World) :
    Calls Try.prog 42 #[.slice a n cp] w fun e w' =>
      e = .returned (.func (.func 44) #[] #[.pointer (some ⟨w.heap.size, 0, none⟩)]) ∧ w' = w.alloc (.cells #[.slice a n cp] 37) := by
  refine (callsIn_wide (n := 9)).1 ?_
  refine callsIn_of_wp Try.func42 rfl trivial ?_ rfl
  simp only [Try.ntmps42, List.size_toArray, List.length_cons, List.length_nil, Nat.reduceAdd, Nat.reduceSub, Array.replicate_succ, Array.replicate_zero, List.push_toArray, List.append_toArray, List.nil_append, List.cons_append]
  gi_wp2
  go_ret
  exact ⟨rfl, rfl⟩

theorem of_err_ne {a b c lit v : Int} (h : ofFine a b c lit v = false) : (ofErr a b c lit v == 0) = false := by
  unfold ofErr
  split
  · rename_i h1
    simp only [Bool.and_eq_true, decide_eq_true_eq] at h1
    obtain ⟨h1, h2⟩ := h1
    simp only [ofFine, h1, h2, decide_true, Bool.true_and] at h
    simp [h]
  · rfl
theorem Turn.below {X : World} {D : Nat} {o o' : Obj} (h : X.heap[D]? = some o) {B : Nat} (hB : B ≤ D) : Below B X (X.putObj D o') :=
  ⟨rfl, rfl, rfl, by simp, fun k hk => World.putObj_heap_other (by omega)⟩

/-- What the loop of States keeps: the current offsets lie in block t; what has been handed out. -/
def StInv (J : List (Nat × I3) → World → Prop) (l S : List I3) (t : Nat) (pre : List (Nat × I3)) (W : World) : Prop :=
  ∃ (k : Nat) (done : List I3) (a b c : Int), pre = upto (itemAt l) k ∧ k ≤ l.length ∧ done.length = k ∧ S = done ++ statesL a b c (l.drop k) ∧ J (upto (itemAt S) k) W ∧ Blk W t #[.int .i64 a, .int .i64 b, .int .i64 c] 22
def StOut (J Jx : List (Nat × I3) → World → Prop) (S : List I3) (c : Code) (W : World) : Prop :=
  c = .exit 0 ∧ (J (upto (itemAt S) S.length) W ∨ ∃ pre, pre <+: upto (itemAt S) S.length ∧ Jx pre W)

set_option maxRecDepth 100000 in
set_option maxHeartbeats 2000000 in
theorem states1 (a b c : Int) (ra rb : Nat) (ad : Option Addr) (n cp : Nat) (l : List I3) (w : World) (hra : Blk w ra #[.int .i64 a, .int .i64 b, .int .i64 c] 22) (hrb : Blk w rb #[.slice ad n cp] 37)
    (hr : Reads3 w (.slice ad n cp) l) (hn : l.length ≤ 1000000) (hb : ∀ x ∈ l, x.2.2 ≤ 9223372036854775807) :
    SeqB Try.prog 41 #[.pointer (some ⟨ra, 0, none⟩), .pointer (some ⟨rb, 0, none⟩)] encI (fun k => 0 < n → ∀ p, ad = some p → k ≠ p.block)
      (fun ys => ys = upto (itemAt (statesL a b c l)) (statesL a b c l).length) (fun pre => pre <+: upto (itemAt (statesL a b c l)) (statesL a b c l).length) w := by
  intro lo C J Jx W hW hC hJ hJx hY h0
  have hKW := Keeps.of_below hW
  replace hra := hra.keeps hKW (by simp)
  replace hrb := hrb.keeps hKW (by simp)
  have hr' := hr.keeps hKW
  have hlt : ∀ p, 0 < n → ad = some p → p.block < W.heap.size := by
    intro p h0 he
    obtain ⟨a', n', cp', he', hn1, hc1⟩ := hr'.form
    obtain ⟨h1, h2, h3⟩ := Value.slice.inj he'
    subst h1 h2 h3
    obtain ⟨_, b', o', h4, h5, _⟩ := hc1 h0
    rw [h4] at he; cases he; exact h5
  obtain ⟨c0, c1, c2, -⟩ := (hra.alloc (.cells #[.func (.yield lo) #[] #[]] 73)).three
  obtain ⟨d0, -⟩ := ((hrb.alloc (.cells #[.func (.yield lo) #[] #[]] 73)).alloc (.cells #[.int .i64 a, .int .i64 b, .int .i64 c] 22)).one
  have lra := hra.lt
  have lrb := hrb.lt
  have HR := Lib.hid hr'
  have HY := Lib.hid hY
  have HJ := Lib.hid hJ
  have HC := Lib.hid hC
  have HB := Lib.hid hb
  have HL := Lib.hid hlt
  obtain ⟨S, hS⟩ : ∃ S, S = statesL a b c l := ⟨_, rfl⟩
  rw [← hS] at HY ⊢
  have HS := Lib.hid hS
  clear hr hr' hY hJ hC hb hlt hS
  refine callsIn_of_wp_marks Try.func41 rfl trivial ?_ rfl
  simp only [Try.ntmps41, List.size_toArray, List.length_cons, List.length_nil, Nat.reduceAdd, Nat.reduceSub, Array.replicate_succ, Array.replicate_zero, List.push_toArray, List.append_toArray, List.nil_append, List.cons_append]
  refine wpIn_wide.2 ?_
  go_wp2_with fail
  refine wp_scope_straight ?_
  go_wp2_with fail
  apply wp_label
  go_wp2_with (refine (all_raw _ _ _ _).mono ?_; rintro e w' ⟨rfl, rfl⟩)
  have k0 : Keeps W (((W.alloc (.cells #[.func (.yield lo) #[] #[]] 73)).alloc (.cells #[.int .i64 a, .int .i64 b, .int .i64 c] 22)).alloc (.cells #[.slice ad n cp] 37)) [] := (((Keeps.refl W []).alloc _).alloc _).alloc _
  have hby := ((Blk.new W #[.func (.yield lo) #[] #[]] 73).alloc (.cells #[.int .i64 a, .int .i64 b, .int .i64 c] 22)).alloc (.cells #[.slice ad n cp] 37)
  have hbt := (Blk.new (W.alloc (.cells #[.func (.yield lo) #[] #[]] 73)) #[.int .i64 a, .int .i64 b, .int .i64 c] 22).alloc (.cells #[.slice ad n cp] 37)
  have hbs := Blk.new ((W.alloc (.cells #[.func (.yield lo) #[] #[]] 73)).alloc (.cells #[.int .i64 a, .int .i64 b, .int .i64 c] 22)) #[.slice ad n cp] 37
  have hs0 : (((W.alloc (.cells #[.func (.yield lo) #[] #[]] 73)).alloc (.cells #[.int .i64 a, .int .i64 b, .int .i64 c] 22)).alloc (.cells #[.slice ad n cp] 37)).heap.size = W.heap.size + 3 := by simp
  simp only [World.size_alloc] at hby hbt hbs
  generalize (((W.alloc (.cells #[.func (.yield lo) #[] #[]] 73)).alloc (.cells #[.int .i64 a, .int .i64 b, .int .i64 c] 22)).alloc (.cells #[.slice ad n cp] 37)) = W0 at *
  have hr0 := HR.out.keeps k0
  have hB0 : Below W.heap.size W W0 := k0.below
  clear c0 c1 c2 d0
  refine range_P (gf := 44) (lb := #[.pointer (some ⟨W.heap.size + 1 + 1, 0, none⟩)]) rfl (enters_of Try.func44 (by kernel_rfl) rfl)
    (all1_raw ad n cp (W.heap.size + 1 + 1) l W0 hbs hr0 hn) (C ++ [W.heap.size + 1]) ?hC ?hfine (fun _ => rfl)
    (fun pre X => StInv J l S (W.heap.size + 1) pre X ∧ Blk X W.heap.size #[.func (.yield lo) #[] #[]] 73)
    (fun cd _ X => StOut J Jx S cd X) ?hI ?hIx ?h0 ?hround ?hdone ?hstop
  case hC =>
    intro k hk
    rcases List.mem_append.1 hk with hk | hk
    · exact ⟨by have := (HC.out k hk).1; omega, (HC.out k hk).2⟩
    · simp at hk; subst hk
      exact ⟨by omega, fun hn0 p hp => by have := HL.out p hn0 hp; omega⟩
  case hfine => exact fun hn0 p hp => by have := HL.out p hn0 hp; omega
  case hI =>
    rintro s A B ⟨⟨k, done, a', b', c', h1, h2, h3, h4, h5, h6⟩, h7⟩ hab
    exact ⟨⟨k, done, a', b', c', h1, h2, h3, h4, HJ.out _ _ _ h5 (hab.mono (by omega)), (hab.block _ (by omega)).trans h6⟩, (hab.block _ (by omega)).trans h7⟩
  case hIx =>
    rintro cd s A B ⟨h1, h2⟩ hab
    refine ⟨h1, ?_⟩
    rcases h2 with h2 | ⟨pre, h2, h3⟩
    · exact .inl (HJ.out _ _ _ h2 (hab.mono (by omega)))
    · exact .inr ⟨pre, h2, hJx _ _ _ h3 (hab.mono (by omega))⟩
  case h0 => exact ⟨⟨0, [], a, b, c, rfl, Nat.zero_le _, rfl, by rw [List.drop_zero]; exact HS.out, HJ.out _ _ _ h0 hB0, hbt⟩, hby⟩
  case hround =>
    rintro l' pre x W2 hle hlt2 ⟨⟨k, done, a', b', c', rfl, hk, hdl, hSd, hJk, hbt⟩, hby⟩ hsp
    obtain ⟨hkl, hxx⟩ := upto_next hsp
    obtain ⟨⟨x0, x1, x2⟩, hx⟩ : ∃ x, l[k]? = some x := ⟨_, List.getElem?_eq_getElem hkl⟩
    have hi : itemAt l k = (k, (x0, x1, x2)) := by simp [itemAt, hx]
    rw [hi] at hxx
    subst hxx
    have hv : x2 ≤ 9223372036854775807 := HB.out (x0, x1, x2) (List.mem_of_getElem? hx)
    gi_wp2
    refine ⟨(Keeps.refl W2 _).alloc _, fun W3 hT => ?_⟩
    have hszT := hT.size
    rw [World.size_alloc] at hszT
    have hW3 : W.heap.size + 3 ≤ W3.heap.size := by omega
    have kT : Keeps (W2.alloc (.cells #[.int .i64 x0, .int .i64 x1, .int .i64 x2] 24)) W3 [l'] := hT.keeps
    have hB3 : Below W.heap.size W2 W3 := ((Below.refl _ W2).alloc (by omega) _).trans (hT.below (by omega))
    have bx := hT.blk (Blk.new W2 #[.int .i64 x0, .int .i64 x1, .int .i64 x2] 24)
    have bt := hT.blk (hbt.alloc (.cells #[.int .i64 x0, .int .i64 x1, .int .i64 x2] 24))
    have bY := hT.blk (hby.alloc (.cells #[.int .i64 x0, .int .i64 x1, .int .i64 x2] 24))
    have hJ3 := HJ.out _ _ _ hJk hB3
    obtain ⟨x0', x1', x2', -⟩ := bx.three
    obtain ⟨t0, t1, t2, ft0, ft1, ft2⟩ := bt.three
    obtain ⟨y0, -⟩ := bY.one
    clear hT hbt hby hJk kT
    have HX := Lib.hid hx
    have HI := Lib.hid hi
    have HD := Lib.hid hSd
    have HDL := Lib.hid hdl
    clear hx hi hSd hdl hsp
    cases hf : ofFine a' b' c' x0 x2 with
    | false =>
      have HF := Lib.hid hf
      have G := fun X => offset_not a' b' c' x0 x1 x2 X hv hf
      have hne : (ofErr a' b' c' x0 x2 == 0) = false := of_err_ne hf
      clear hf
      generalize ofErr a' b' c' x0 x2 = E at *
      have HG := Lib.hid G
      clear G
      have hne' : (E != 0) = true := by simpa using hne
      have hE : ¬ E = 0 := by simpa using hne
      have hSk : S = done := by
        have h1 := HD.out
        rw [List.drop_eq_getElem_cons hkl] at h1
        have h2 : l[k] = (x0, x1, x2) := by have := HX.out; rw [List.getElem?_eq_getElem hkl] at this; exact Option.some.inj this
        rw [h2] at h1
        simpa [statesL, HF.out] using h1
      have HSk := Lib.hid hSk
      clear hSk
      gi_wp2_with (refine ⟨trivial, ?_⟩; gi_at_call 12; refine (calls_in (HG.out _)).mono ?_; rintro e w1 ⟨rfl, k1⟩)
      refine ⟨fun _ h => (by cases h), ?_⟩
      gi_wp2_with fail
      refine ⟨((Keeps.refl W3 _).then k1).alloc _, rfl, .inl ?_⟩
      have hl : S.length = k := by rw [HSk.out]; exact HDL.out
      rw [hl]
      exact HJ.out _ _ _ hJ3 ((k1.below.mono (by omega)).alloc (by have := k1.size; omega) _)
    | true =>
      have HF := Lib.hid hf
      have G := fun X => offset_fine a' b' c' x0 x1 x2 X hv hf
      clear hf
      have HSk : Hid (S = (done ++ [(toldO a' b' c' x0 x2, updB a' b' (toldK x0 x2), updC b' c' (toldK x0 x2))]) ++ statesL (toldO a' b' c' x0 x2) (updB a' b' (toldK x0 x2)) (updC b' c' (toldK x0 x2)) (l.drop (k + 1))) := by
        show _ = _
        have h1 := HD.out
        rw [List.drop_eq_getElem_cons hkl] at h1
        have h2 : l[k] = (x0, x1, x2) := by have := HX.out; rw [List.getElem?_eq_getElem hkl] at this; exact Option.some.inj this
        rw [h2] at h1
        simpa [statesL, HF.out] using h1
      clear HF HD
      generalize toldO a' b' c' x0 x2 = O at *
      generalize updB a' b' (toldK x0 x2) = B' at *
      generalize updC b' c' (toldK x0 x2) = C' at *
      have HG := Lib.hid G
      clear G
      have HIS : Hid (itemAt S k = (k, (O, B', C'))) := by
        show _ = _
        have h1 : S[k]? = some (O, B', C') := by
          rw [HSk.out, List.append_assoc, List.getElem?_append_right (by rw [HDL.out]; exact Nat.le_refl _), HDL.out]
          simp
        simp [itemAt, h1]
      have HLS : Hid (k + 1 ≤ S.length) := by
        show _ ≤ _
        have := congrArg List.length HSk.out
        have := HDL.out
        simp at *
        omega
      gi_wp2_with (refine ⟨trivial, ?_⟩; gi_at_call 12; refine (calls_in (HG.out _)).mono ?_; rintro e w1 ⟨rfl, k1⟩; have hk1s := k1.size; have bY1 := (bY.keeps k1 (by simp)).alloc (.cells #[.int .i64 O, .int .i64 B', .int .i64 C'] 22); have bt1 := (bt.keeps k1 (by simp)).alloc (.cells #[.int .i64 O, .int .i64 B', .int .i64 C'] 22); have bn1 := Blk.new w1 #[.int .i64 O, .int .i64 B', .int .i64 C'] 22; obtain ⟨y1, -⟩ := bY1.one; obtain ⟨n0, n1, n2, -⟩ := bn1.three; have hJ1 := HJ.out _ _ _ hJ3 ((k1.below.mono (B' := W.heap.size) (by omega)).alloc (by omega) (.cells #[.int .i64 O, .int .i64 B', .int .i64 C'] 22)); obtain ⟨fn, tmps, assign, body, hy, hR⟩ := HY.out (upto (itemAt S) k) (itemAt S k) _ hJ1 (by rw [← upto_succ]; exact upto_prefix _ HLS.out); rw [HIS.out] at hy; dsimp only [encI] at hy; clear y0 t0 t1 t2 ft0 ft1 ft2 x0' x1' x2')
      have k3 : Keeps W3 (w1.alloc (.cells #[.int .i64 O, .int .i64 B', .int .i64 C'] 22)) (C ++ [W.heap.size + 1]) := ((Keeps.refl W3 _).then k1).alloc _
      clear hJ1 y1 n0 n1 n2
      have notC : ∀ z, W.heap.size ≤ z → z ∉ C := fun z hz hm => by have := (HC.out z hm).1; omega
      refine (round_in hR).mono ?_
      rintro e W5 (⟨rfl, hJ5, hk5⟩ | ⟨rfl, hJx5, hk5⟩)
      · have hk5s := hk5.size
        rw [World.size_alloc] at hk5s
        have bY5 := bY1.keeps hk5 (notC _ (Nat.le_refl _))
        have bt5 := bt1.keeps hk5 (notC _ (by omega))
        have bn5 := bn1.keeps hk5 (notC _ (by omega))
        obtain ⟨n0, n1, n2, -⟩ := bn5.three
        obtain ⟨u0, u1, u2, fu0, fu1, fu2⟩ := bt5.three
        gi_wp2_with fail
        have kk : Keeps W3 W5 (C ++ [W.heap.size + 1]) := k3.trans hk5 (fun z hz _ => List.mem_append.2 (.inl hz))
        refine ⟨?_, ⟨k + 1, done ++ [(O, B', C')], O, B', C', ?_, hkl, ?_, HSk.out, ?_, ?_⟩, ?_⟩
        · repeat' first | with_reducible exact kk | with_reducible refine Keeps.setCell' (.inr (by simp)) ?_
        · rw [upto_succ, HI.out]
        · simp [HDL.out]
        · rw [upto_succ]
          refine HJ.out _ _ _ hJ5 ?_
          exact (((Below.refl _ W5).setCell (p := ⟨W.heap.size + 1, 0, none⟩) (Nat.le_succ _) _).setCell (p := ⟨W.heap.size + 1, 1, none⟩) (Nat.le_succ _) _).setCell (p := ⟨W.heap.size + 1, 2, none⟩) (Nat.le_succ _) _
        · exact ((bt5.set 0 (.int .i64 O)).set 1 (.int .i64 B')).set 2 (.int .i64 C')
        · exact ((bY5.setOther (by simp) _).setOther (by simp) _).setOther (by simp) _
      · gi_wp2_with fail
        refine ⟨k3.trans hk5 (fun z hz _ => List.mem_append.2 (.inl hz)), rfl, .inr ⟨_, ?_, hJx5⟩⟩
        rw [← upto_succ]
        exact upto_prefix _ HLS.out
  case hdone =>
    rintro D xs X hD rfl ⟨⟨k, done, a', b', c', h1, h2, h3, h4, h5, h6⟩, h7⟩ hK
    have hkk : k = l.length := by have := congrArg List.length h1; simp only [upto_length] at this; omega
    subst hkk
    have hSl : S.length = l.length := by rw [List.drop_length] at h4; rw [h4]; simp [statesL, h3]
    have HSl := Lib.hid hSl
    clear h4 hSl
    simp only [Exit.inBlock, Exit.noGoto]
    go_wp2_with fail
    refine ⟨by simp, .inl ⟨_, _, rfl, run_takeDeferred hK, ?_⟩⟩
    have hfin := HJ.out _ _ _ h5 (Turn.below (o' := .deferred none) hK (show W.heap.size ≤ D by omega))
    rw [← HSl.out] at hfin
    first
    | exact ⟨_, results_none rfl _ _ _, ⟨_, rfl⟩, .inl hfin⟩
    | exact ⟨_, results_none rfl _ _ _, ⟨_, rfl⟩, .inl ⟨_, rfl, hfin⟩⟩
  case hstop =>
    rintro D cd pre X hD hp ⟨rfl, hx⟩ hK
    go_wp2_with fail
    simp only [Exit.inBlock, Exit.noGoto]
    go_wp2_with fail
    refine ⟨by simp, .inl ⟨_, _, rfl, run_takeDeferred hK, ?_⟩⟩
    refine ⟨_, results_none rfl _ _ _, ⟨_, rfl⟩, ?_⟩
    have hbb : Below W.heap.size X (X.putObj D (.deferred none)) := Turn.below hK (by omega)
    rcases hx with hx | ⟨pre', h2, h3⟩
    · exact .inl ⟨_, rfl, HJ.out _ _ _ hx hbb⟩
    · exact .inr ⟨pre', h2, hJx _ _ _ h3 hbb⟩

end Go.Proofs.Ytldbiohahkcpnaa
