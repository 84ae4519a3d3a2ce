/-
  Walks over package weights: the reader of format 1. (Printed by mkWe.py.)
-/
import Derived.Test.YtcmagccfagijlaaGreatQ25
import Derived.Test.YtcmagccfagijlaaGreatQ33
namespace Go.Proofs.YtcmagccfagijlaaGreat
set_option linter.unusedVariables false
set_option linter.unusedSimpArgs false
set_option linter.unusedSectionVars false
open Go.RowKit

/-- The m weights that a description in format 1 says, or an error, and where the cursor stands. -/
def codedR (B : List Int) (k m : Nat) : Except Int (List Int) × Nat :=
  match descP ((B.drop k).take 1024) 12 6 with
  | .error e => (.error e, k)
  | .ok (g, norm, nb) =>
    if numE B (k + nb) 131072 ≠ 0 then (.error (numE B (k + nb) 131072), numK B (k + nb) 131072) else
    if bytesE B (numK B (k + nb) 131072) (numX B (k + nb) 131072 : Nat) ≠ 0 then (.error (bytesE B (numK B (k + nb) 131072) (numX B (k + nb) 131072 : Nat)), bytesK B (numK B (k + nb) 131072) (numX B (k + nb) 131072 : Nat)) else
    (flowD (g : Int) norm (bytesX B (numK B (k + nb) 131072) (numX B (k + nb) 131072 : Nat)) m, bytesK B (numK B (k + nb) 131072) (numX B (k + nb) 131072 : Nat))
/-- How the reader ends. -/
def CodEnd (w : World) (p : Nat) (v : Value) (B : List Int) (R : Except Int (List Int) × Nat) (e : Ending) (w' : World) : Prop :=
  Keeps w w' [p] ∧ Cur w' p v B R.2 ∧ match R.1 with
    | .ok out => ∃ r, e = .returned r ∧ RdI .i64 w' r out ∧ Fresh w.heap.size r
    | .error n => n ≠ 0 ∧ e = .panicked [raisedBy n false]
theorem codEnd_no {w w' : World} {p k' : Nat} {v : Value} {B : List Int} {n : Int} (h1 : Keeps w w' [p]) (h2 : Cur w' p v B k') (h3 : n ≠ 0) : CodEnd w p v B (.error n, k') (.panicked [raisedBy n false]) w' := ⟨h1, h2, h3, rfl⟩

set_option maxRecDepth 100000 in
set_option maxHeartbeats 1000000 in
theorem rflow_desc (p k m : Nat) (v : Value) (B : List Int) (w : World) (hc : Cur w p v B k) {er : Int} (hd : descP ((B.drop k).take 1024) 12 6 = .error er) :
    Calls Tryz.prog 127 #[.agg #[.pointer (some ⟨p, 0, none⟩)], .int .i64 (m : Int)] w (CodEnd w p v B (.error er, k)) := by
  have k0 := (Keeps.refl w []).alloc (.cells #[.pointer (some ⟨p, 0, none⟩)] 164)
  have HD := Lib.hid (ddecode_any p k 12 6 v B _ (hc.keeps k0) (by decide))
  rw [hd] at HD
  rw [show ((12 : Nat) : Int) = 12 from rfl] at HD
  have hpl := hc.old.1
  clear hc hd
  go_enter Tryz.func127, Tryz.ntmps127
  go_wp2_with fail
  refine HD.out.mono ?_
  rintro e w1 ⟨k1, her, rfl, cur1⟩
  have K1 := Lib.hid ((k0.mono (S' := [p]) (by simp)).trans k1 (fun j hj _ => hj))
  have CUR := Lib.hid cur1
  clear cur1 k1
  go_wp2_with fail
  refine (wmust_no er her _ _ (Blk.newA (by simp))).mono ?_
  rintro e w5 ⟨rfl, rfl⟩
  go_wp2_with fail
  exact ⟨rfl, codEnd_no ((K1.out.alloc _).alloc _) ((CUR.out.keeps ((Keeps.refl _ []).alloc _)).keeps ((Keeps.refl _ []).alloc _)) her⟩

theorem zerosP_bound {symbols : Nat} : ∀ {f : Nat} {L L2 : List Bool} {out o : List Int}, (∀ x ∈ out, -1 ≤ x ∧ x ≤ 600) → zerosP symbols f L out = .ok (o, L2) → ∀ x ∈ o, -1 ≤ x ∧ x ≤ 600 := by
  intro f
  induction f with
  | zero => intro L L2 out o _ h; cases h
  | succ f ih =>
    intro L L2 out o ho h
    have happ : ∀ k : Nat, ∀ x ∈ out ++ List.replicate k (0 : Int), -1 ≤ x ∧ x ≤ 600 := fun k x hx => by
      rcases List.mem_append.1 hx with hx | hx
      · exact ho x hx
      · rw [(List.mem_replicate.1 hx).2]; omega
    unfold zerosP at h
    split at h
    · cases h
    · split at h
      · cases h
      · split at h
        · exact ih (happ _) h
        · injection h with h
          injection h with e1 e2
          subst e1
          exact happ _
theorem normsP_bound {symbols : Nat} : ∀ {f : Nat} {L L2 : List Bool} {left : Nat} {out o : List Int} {ran : Bool}, left ≤ 512 → (∀ x ∈ out, -1 ≤ x ∧ x ≤ 600) → normsP symbols f L left out ran = .ok (o, L2) → ∀ x ∈ o, -1 ≤ x ∧ x ≤ 600 := by
  intro f
  induction f with
  | zero => intro L L2 left out o ran _ _ h; cases h
  | succ f ih =>
    intro L L2 left out o ran hl ho h
    unfold normsP at h
    split at h
    · injection h with h
      injection h with e1 e2
      subst e1
      exact ho
    · split at h
      · cases h
      · split at h
        · cases h
        · rename_i v L1 hn
          obtain ⟨hv, -, -⟩ := numP_lt (by omega) hn
          have happ : ∀ x ∈ out ++ [(v : Int) - 1], -1 ≤ x ∧ x ≤ 600 := fun x hx => by
            rcases List.mem_append.1 hx with hx | hx
            · exact ho x hx
            · rw [List.mem_singleton.1 hx]; omega
          split at h
          · cases h
          · split at h
            · split at h
              · cases h
              · rename_i o2 L3 hz
                exact ih hl (zerosP_bound happ hz) h
            · exact ih (by split <;> omega) happ h
theorem descP_bound {D : List Int} {symbols g nb : Nat} {log : Int} {norm : List Int} (h : descP D symbols log = .ok (g, norm, nb)) : ∀ x ∈ norm, -9223372036854775808 ≤ x ∧ x ≤ 9223372036854775807 := by
  have key : ∀ x ∈ norm, -1 ≤ x ∧ x ≤ 600 := by
    unfold descP at h
    split at h
    · cases h
    · rename_i n l L2 ht
      split at h
      · injection h with h
        injection h with e1 h
        injection h with e2 e3
        subst e2
        unfold tabP at ht
        split at ht
        · cases ht
        · split at ht
          · cases ht
          · rename_i n0 L1 hk hc
            have h9 : 2 ^ (n0 + 1) ≤ 512 := by
              have := Nat.pow_le_pow_right (n := 2) (by decide) (show n0 + 1 ≤ 9 by omega)
              rwa [show (2 : Nat) ^ 9 = 512 by decide] at this
            cases hy : normsP symbols (symbols + 1) L1 (2 ^ (n0 + 1)) [] false with
            | error e => rw [hy] at ht; cases ht
            | ok y =>
              obtain ⟨o, L3⟩ := y
              rw [hy] at ht
              unfold tabOf at ht
              injection ht with ht
              injection ht with e4 ht
              injection ht with e5 e6
              subst e5
              exact normsP_bound h9 (by simp) hy
      · cases h
  intro x hx
  have := key x hx
  omega

set_option maxRecDepth 100000 in
set_option maxHeartbeats 2000000 in
theorem rflow_rest (p k m g nb : Nat) (v : Value) (norm B : List Int) (w : World) (hc : Cur w p v B k) (hd : descP ((B.drop k).take 1024) 12 6 = .ok (g, norm, nb)) (hm : m ≤ 131072) :
    Calls Tryz.prog 127 #[.agg #[.pointer (some ⟨p, 0, none⟩)], .int .i64 (m : Int)] w (CodEnd w p v B (codedR B k m)) := by
  have hb := descP_bound hd
  have k0 := (Keeps.refl w []).alloc (.cells #[.pointer (some ⟨p, 0, none⟩)] 164)
  have b0 := Blk.new w #[.pointer (some ⟨p, 0, none⟩)] 164
  have HD := Lib.hid (ddecode_any p k 12 6 v B _ (hc.keeps k0) (by decide))
  have hbytes : Hid (∀ x ∈ B, 0 ≤ x ∧ x ≤ 255) := hc.byte
  have hBlen : Hid (B.length ≤ 1000000) := hc.len
  obtain ⟨RR, hRR⟩ : ∃ R, codedR B k m = R := ⟨_, rfl⟩
  rw [hRR]
  unfold codedR at hRR
  rw [hd] at HD hRR
  simp only at hRR
  rw [show ((12 : Nat) : Int) = 12 from rfl] at HD
  have hpl := hc.old.1
  obtain ⟨k1', hk1⟩ : ∃ x, k + nb = x := ⟨_, rfl⟩
  rw [hk1] at hRR
  have HRR := Lib.hid hRR
  clear hRR
  obtain ⟨nl, hnl⟩ : ∃ n, norm.length = n := ⟨_, rfl⟩
  have HDE : Hid (∀ e w', DescEnd (w.alloc (.cells #[.pointer (some ⟨p, 0, none⟩)] 164)) p v B k (.ok (g, norm, nb)) e w' → Keeps (w.alloc (.cells #[.pointer (some ⟨p, 0, none⟩)] 164)) w' [p] ∧ ∃ a c, e = .returned (.tuple #[.agg #[.int .i64 (g : Int), .slice a nl c], .int .i64 0]) ∧ w'.ownsRow (w.heap.size + 1) 3 1 (.slice a nl c) nl (norm.map (.int .i64)) ∧ nl ≤ 1300 ∧ Cur w' p v B k1') := by
    rintro e w' ⟨h1, a, c, h2, h3, h4, h5⟩
    rw [hk1] at h5
    rw [hnl] at h2 h3 h4
    exact ⟨h1, a, c, h2, by simpa using h3, h4, h5⟩
  have HB := Lib.hid hb
  clear hc hd hk1 hb
  have HNL := Lib.hid hnl
  clear hnl
  go_enter Tryz.func127, Tryz.ntmps127
  go_wp2_with fail
  refine HD.out.mono ?_
  intro e w1 hde
  obtain ⟨k1, a, c, rfl, own1, hnl2, cur1⟩ := HDE.out _ _ hde
  have b1 := b0.keeps k1 (by simp; omega)
  have kk1 : Keeps w w1 [p] := (k0.mono (S' := [p]) (by simp)).trans k1 (fun j hj _ => hj)
  have t1 := (Blk.new w1 #[.int .i64 (g : Int), .slice a nl c] 27).alloc (.cells #[.int .i64 0] 33)
  have ka := ((Keeps.refl w1 []).alloc (.cells #[.int .i64 (g : Int), .slice a nl c] 27)).alloc (.cells #[.int .i64 0] 33)
  have b2 := b1.keeps ka (by simp)
  have cur2 := cur1.keeps ka
  have own2 := own_keeps own1 ka
  have kk2 := kk1.then ka
  have hs1 := b1.lt
  have hpw : p < w1.heap.size := cur1.old.1
  have HR := Lib.hid (show _ ∧ _ ∧ _ ∧ _ ∧ _ from ⟨t1, b2, cur2, own2, kk2⟩)
  clear hde k1 b1 kk1 t1 ka b2 cur1 cur2 own1 own2 kk2 b0 k0 HD HDE
  go_wp2_with (go_at_call 143; go_loud (refine (wmust_yes _ _ (Blk.newA (by simp))).mono ?_; rintro e w5 ⟨rfl, rfl⟩))
  generalize ((w1.alloc (.cells #[.int .i64 (g : Int), .slice a nl c] 27)).alloc (.cells #[.int .i64 0] 33)) = w2 at *
  obtain ⟨t2, b2, cur2, own2, kk2⟩ := HR.out
  refine wp_region_held_drew (S := (fun w' => Blk w' w1.heap.size #[.int .i64 (g : Int), .slice a nl c] 27 ∧ Blk w' w.heap.size #[.pointer (some ⟨p, 0, none⟩)] 164)) (by kernel_rfl) ⟨t2.drew, b2.drew⟩ (fun hHeld => ?_)
  have HNU := Lib.hid (rnumber_any p k1' 131072 v B w2.drew (cur2.keeps (Keeps.refl w2 []).drew) (by decide))
  have HBY := Lib.hid (fun W (mm : Int) kq (cu : Cur W p v B kq) => rbytes_any p kq mm v B W cu)
  rw [show ((131072 : Nat) : Int) = 131072 from rfl] at HNU
  have kk3 := kk2.drew
  have OW2 := Lib.hid (show w2.drew.ownsRow _ _ _ _ _ _ from own_keeps own2 (Keeps.refl w2 []).drew)
  clear t2 b2 cur2 own2 kk2 HR
  refine takeL (i := 0) (v := ?_) rfl (by kernel_rfl) (by kernel_rfl) (by kernel_rfl) (fun _ _ _ h => h) (by rfl) ?_ (by assumption) ?_
  rotate_left
  · (intro w9 hSw; obtain ⟨q0, q1⟩ := hSw; have r0 := q0.cell 0; have r1 := q0.cell 1; simp at r0 r1; obtain ⟨r2, -⟩ := q1.one; clear q0 q1; go_simp; (try with_reducible rfl))
  try simp only [Act.put, List.setIfInBounds_toArray, List.set_cons_zero, List.set_cons_succ]
  refine takeL (i := 1) (v := ?_) rfl (by kernel_rfl) (by kernel_rfl) (by kernel_rfl) (fun _ _ _ h => h) (by rfl) ?_ (by assumption) ?_
  rotate_left
  · (intro w9 hSw; obtain ⟨q0, q1⟩ := hSw; have r0 := q0.cell 0; have r1 := q0.cell 1; simp at r0 r1; obtain ⟨r2, -⟩ := q1.one; clear q0 q1; go_simp; (try with_reducible rfl))
  try simp only [Act.put, List.setIfInBounds_toArray, List.set_cons_zero, List.set_cons_succ]
  refine takeL (i := 2) (v := ?_) rfl (by kernel_rfl) (by kernel_rfl) (by kernel_rfl) (fun _ _ _ h => h) (by rfl) ?_ (by assumption) ?_
  rotate_left
  · (intro w9 hSw; obtain ⟨q0, q1⟩ := hSw; have r0 := q0.cell 0; have r1 := q0.cell 1; simp at r0 r1; obtain ⟨r2, -⟩ := q1.one; clear q0 q1; go_simp; (try with_reducible rfl))
  try simp only [Act.put, List.setIfInBounds_toArray, List.set_cons_zero, List.set_cons_succ]
  refine takeL (i := 5) (v := ?_) rfl (by kernel_rfl) (by kernel_rfl) (by kernel_rfl) (fun _ _ _ h => h) (by rfl) ?_ (by assumption) ?_
  rotate_left
  · (intro w9 hSw; obtain ⟨q0, q1⟩ := hSw; have r0 := q0.cell 0; have r1 := q0.cell 1; simp at r0 r1; obtain ⟨r2, -⟩ := q1.one; clear q0 q1; go_simp; (try with_reducible rfl))
  try simp only [Act.put, List.setIfInBounds_toArray, List.set_cons_zero, List.set_cons_succ]
  by_cases hE : numE B k1' 131072 = 0
  · have hr := HRR.out
    rw [if_neg (by simpa using hE)] at hr
    refine callL (i := 3) rfl (by kernel_rfl) (fun Kont hK => ?_)
    go_simp
    refine HNU.out.mono ?_
    rintro e w3 ⟨h1, -, cur3, k3⟩
    obtain rfl := h1 hE
    go_wp2_with fail
    have h3a := hHeld.1.keeps k3 (by simp; omega)
    have h3b := hHeld.2.keeps k3 (by simp; omega)
    refine hK.out _ _ ?_ (fun hHeld => ?_)
    · exact ⟨h3a, h3b⟩
    clear hK Kont h3a h3b h1
    have kk4 := kk3.trans k3 (fun j hj _ => hj)
    have OW3 := Lib.hid (own_old OW2.out k3 (fun x hx hm => by have := List.mem_singleton.1 hm; have := (OW2.out.lt x hx).1; omega))
    have hs3 := k3.size
    have HBY3 := Lib.hid (HBY.out w3 ((numX B k1' 131072 : Nat) : Int) (numK B k1' 131072) cur3)
    have HLEN2 : Hid ((bytesX B (numK B k1' 131072) ((numX B k1' 131072 : Nat) : Int)).length ≤ 1000000) := by
      show _ ≤ _
      have := hBlen.out
      unfold bytesX
      split
      · rw [List.length_take, List.length_drop]; omega
      · simp
    have HBB2 : Hid (∀ x ∈ bytesX B (numK B k1' 131072) ((numX B k1' 131072 : Nat) : Int), 0 ≤ x ∧ x ≤ 255) := fun x hx => hbytes.out x (bytesX_mem hx)
    clear k3 cur3 OW2 HNU HBY kk3
    generalize numX B k1' 131072 = NX at *
    generalize numK B k1' 131072 = NK at *
    generalize bytesX B NK (NX : Int) = BX at *
    generalize bytesE B NK (NX : Int) = BE at *
    generalize bytesK B NK (NX : Int) = BK at *
    by_cases hE2 : BE = 0
    · rw [if_neg (by simpa using hE2)] at hr
      refine callL (i := 4) rfl (by kernel_rfl) (fun Kont hK => ?_)
      go_simp
      refine HBY3.out.mono ?_
      rintro e w4 ⟨h1, -, cur4, k4⟩
      obtain ⟨rb, rfl, rdb, -⟩ := h1 hE2
      go_wp2_with fail
      have h3a := hHeld.1.keeps k4 (by simp; omega)
      have h3b := hHeld.2.keeps k4 (by simp; omega)
      refine hK.out _ _ ?_ (fun hHeld => ?_)
      · exact ⟨h3a, h3b⟩
      clear hK Kont h3a h3b h1
      have kk5 := kk4.trans k4 (fun j hj _ => hj)
      have ow4 := own_old OW3.out k4 (fun x hx hm => by have := List.mem_singleton.1 hm; have := (OW3.out.lt x hx).1; omega)
      have rdn : RdI .i64 w4 (.slice a nl c) norm := by
        have h := ow4
        rw [← HNL.out] at h ⊢
        exact own_reads h
      have HFD := Lib.hid (fdec_any (g : Int) (.slice a nl c) rb norm BX m w4 rdn (by rw [HNL.out]; omega) HB.out rdb HLEN2.out HBB2.out hm)
      have hs4 := k4.size
      have CUR4 := Lib.hid cur4
      clear k4 ow4 rdn rdb cur4 OW3 HBY3 kk4
      cases hF : flowD (g : Int) norm BX m with
      | ok outl =>
        rw [hF] at HFD hr
        refine callL (i := 6) rfl (by kernel_rfl) (fun Kont hK => ?_)
        go_simp
        refine HFD.out.mono ?_
        rintro e w5 ⟨k5, rf, rfl, rdf, frf⟩
        go_wp2_with fail
        have h3a := hHeld.1.keeps k5 (by simp)
        have h3b := hHeld.2.keeps k5 (by simp)
        refine hK.out _ _ ?_ (fun hHeld => ?_)
        · exact ⟨h3a, h3b⟩
        clear hK Kont h3a h3b
        refine takeL (i := 7) (v := ?_) rfl (by kernel_rfl) (by kernel_rfl) (by kernel_rfl) (fun _ _ _ h => h) (by rfl) ?_ (by assumption) ?_
        rotate_left
        · (intro w9 hSw; clear hSw; go_simp; (try with_reducible rfl))
        try simp only [Act.put, List.setIfInBounds_toArray, List.set_cons_zero, List.set_cons_succ]
        refine takeL (i := 8) (v := ?_) rfl (by kernel_rfl) (by kernel_rfl) (by kernel_rfl) (fun _ _ _ h => h) (by rfl) ?_ (by assumption) ?_
        rotate_left
        · (intro w9 hSw; clear hSw; go_simp; (try with_reducible rfl))
        try simp only [Act.put, List.setIfInBounds_toArray, List.set_cons_zero, List.set_cons_succ]
        refine takeL (i := 9) (v := ?_) rfl (by kernel_rfl) (by kernel_rfl) (by kernel_rfl) (fun _ _ _ h => h) (by rfl) ?_ (by assumption) ?_
        rotate_left
        · (intro w9 hSw; clear hSw; go_simp; (try with_reducible rfl))
        try simp only [Act.put, List.setIfInBounds_toArray, List.set_cons_zero, List.set_cons_succ]
        refine takeL (i := 10) (v := ?_) rfl (by kernel_rfl) (by kernel_rfl) (by kernel_rfl) (fun _ _ _ h => h) (by rfl) ?_ (by assumption) ?_
        rotate_left
        · (intro w9 hSw; clear hSw; go_simp; (try with_reducible rfl))
        try simp only [Act.put, List.setIfInBounds_toArray, List.set_cons_zero, List.set_cons_succ]
        refine takeL (i := 11) (v := ?_) rfl (by kernel_rfl) (by kernel_rfl) (by kernel_rfl) (fun _ _ _ h => h) (by rfl) ?_ (by assumption) ?_
        rotate_left
        · (intro w9 hSw; clear hSw; go_simp; (try with_reducible rfl))
        try simp only [Act.put, List.setIfInBounds_toArray, List.set_cons_zero, List.set_cons_succ]
        refine wpAnyH_done (by kernel_rfl) ?_ _
        have K6 := Lib.hid (kk5.then k5)
        have RF := Lib.hid (And.intro rdf frf)
        have CU := Lib.hid (CUR4.out.keeps k5)
        have hss := kk5.size
        clear hHeld HFD hF k5 rdf frf kk5
        go_wp2_with (go_at_call 143; go_loud (refine (wmust_yes _ _ (Blk.newA rfl)).mono ?_; rintro e w7 ⟨rfl, rfl⟩))
        go_ret
        rw [← hr]
        exact ⟨K6.out.alloc _, CU.out.keeps ((Keeps.refl _ []).alloc _), rf, rfl, RF.out.1.keeps ((Keeps.refl _ []).alloc _), RF.out.2.mono hss⟩
      | error er =>
        rw [hF] at HFD hr
        refine callL (i := 6) rfl (by kernel_rfl) (fun Kont hK => ?_)
        go_simp
        refine HFD.out.mono ?_
        rintro e w5 ⟨k5, her, rfl⟩
        go_wp2_with fail
        have h3a := hHeld.1.keeps k5 (by simp)
        have h3b := hHeld.2.keeps k5 (by simp)
        refine hK.out _ _ ?_ (fun hHeld => ?_)
        · exact ⟨h3a, h3b⟩
        clear hK Kont h3a h3b
        refine takeL (i := 7) (v := ?_) rfl (by kernel_rfl) (by kernel_rfl) (by kernel_rfl) (fun _ _ _ h => h) (by rfl) ?_ (by assumption) ?_
        rotate_left
        · (intro w9 hSw; clear hSw; go_simp; (try with_reducible rfl))
        try simp only [Act.put, List.setIfInBounds_toArray, List.set_cons_zero, List.set_cons_succ]
        refine takeL (i := 8) (v := ?_) rfl (by kernel_rfl) (by kernel_rfl) (by kernel_rfl) (fun _ _ _ h => h) (by rfl) ?_ (by assumption) ?_
        rotate_left
        · (intro w9 hSw; clear hSw; go_simp; (try with_reducible rfl))
        try simp only [Act.put, List.setIfInBounds_toArray, List.set_cons_zero, List.set_cons_succ]
        refine takeL (i := 9) (v := ?_) rfl (by kernel_rfl) (by kernel_rfl) (by kernel_rfl) (fun _ _ _ h => h) (by rfl) ?_ (by assumption) ?_
        rotate_left
        · (intro w9 hSw; clear hSw; go_simp; (try with_reducible rfl))
        try simp only [Act.put, List.setIfInBounds_toArray, List.set_cons_zero, List.set_cons_succ]
        refine takeL (i := 10) (v := ?_) rfl (by kernel_rfl) (by kernel_rfl) (by kernel_rfl) (fun _ _ _ h => h) (by rfl) ?_ (by assumption) ?_
        rotate_left
        · (intro w9 hSw; clear hSw; go_simp; (try with_reducible rfl))
        try simp only [Act.put, List.setIfInBounds_toArray, List.set_cons_zero, List.set_cons_succ]
        refine takeL (i := 11) (v := ?_) rfl (by kernel_rfl) (by kernel_rfl) (by kernel_rfl) (fun _ _ _ h => h) (by rfl) ?_ (by assumption) ?_
        rotate_left
        · (intro w9 hSw; clear hSw; go_simp; (try with_reducible rfl))
        try simp only [Act.put, List.setIfInBounds_toArray, List.set_cons_zero, List.set_cons_succ]
        refine wpAnyH_done (by kernel_rfl) ?_ _
        have K6 := Lib.hid (kk5.then k5)
        have CU := Lib.hid (CUR4.out.keeps k5)
        clear hHeld HFD hF k5 kk5
        go_wp2_with (go_at_call 143; go_loud (refine (wmust_no er her _ _ (Blk.newA rfl)).mono ?_; rintro e w7 ⟨rfl, rfl⟩))
        rw [← hr]
        exact ⟨rfl, codEnd_no (K6.out.alloc _) (CU.out.keeps ((Keeps.refl _ []).alloc _)) her⟩
    · rw [if_pos hE2] at hr
      refine callL (i := 4) rfl (by kernel_rfl) (fun Kont hK => ?_)
      go_simp
      refine HBY3.out.mono ?_
      rintro e w4 ⟨-, h1, cur4, k4⟩
      obtain rfl := h1 hE2
      rw [← hr]
      exact ⟨rfl, codEnd_no (kk4.trans k4 (fun j hj _ => hj)) cur4 hE2⟩
  · have hr := HRR.out
    rw [if_pos hE] at hr
    refine callL (i := 3) rfl (by kernel_rfl) (fun Kont hK => ?_)
    go_simp
    refine HNU.out.mono ?_
    rintro e w3 ⟨-, h1, cur3, k3⟩
    obtain rfl := h1 hE
    rw [← hr]
    exact ⟨rfl, codEnd_no (kk3.trans k3 (fun j hj _ => hj)) cur3 hE⟩

theorem rflow_any (p k m : Nat) (v : Value) (B : List Int) (w : World) (hc : Cur w p v B k) (hm : m ≤ 131072) :
    Calls Tryz.prog 127 #[.agg #[.pointer (some ⟨p, 0, none⟩)], .int .i64 (m : Int)] w (CodEnd w p v B (codedR B k m)) := by
  cases hd : descP ((B.drop k).take 1024) 12 6 with
  | error er =>
    have := rflow_desc p k m v B w hc hd
    unfold codedR
    rw [hd]
    exact this
  | ok z =>
    obtain ⟨g, norm, nb⟩ := z
    exact rflow_rest p k m g nb v norm B w hc hd hm


end Go.Proofs.YtcmagccfagijlaaGreat
