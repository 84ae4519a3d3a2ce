/-
  The law on chains, early exit and snapshots: its walk.
-/
import Derived.Test.YticlhaofmcajpaaX1
namespace Go.Proofs.Yticlhaofmcajpaa
set_option linter.unusedVariables false
set_option linter.unusedSimpArgs false
set_option linter.unusedSectionVars false
open Go.RowKit Go.Shelf

attribute [local go_sem] Oper.semAt_some

theorem RdI.below {k : IntKind} {w w' : World} {B : Nat} {v : Value} {l : List Int} (h : RdI k w v l) (kk : Below B w w') (hn : ∀ ad n cp, v = .slice (some ad) n cp → 0 < n → ad.block < B) : RdI k w' v l := by
  obtain ⟨a, n, cp, rfl, hn', h0, hc⟩ := h.form
  refine ⟨a, n, cp, rfl, hn', h0, fun hp => ?_⟩
  obtain ⟨h1, b, o, rfl, h3, h4⟩ := hc hp
  exact ⟨h1, b, o, rfl, Nat.lt_of_lt_of_le h3 kk.size, fun i x hx => (World.cell?_of_block (w := w) (a := ⟨b, o + i, Option.none⟩) (kk.block b (hn _ _ _ rfl hp))).trans (h4 i x hx)⟩

/-- What the second turn keeps. -/
structure ChSt (w : World) (ra r8 rl rn : Nat) (at' : Int) (vl : Value) (L : List Int) (k : Nat) (X : World) : Prop where
  kx : Keeps w X []
  rd : RdI .i64 X vl L
  ba : Blk X ra #[.int .i64 at'] 3
  b8 : Blk X r8 #[.bool false] 4
  bl : Blk X rl #[vl] 37
  bn : Blk X rn #[.int .i64 (k : Int)] 3
theorem ChSt.below {w X Y : World} {ra r8 rl rn k : Nat} {at' : Int} {vl : Value} {L : List Int} (h : ChSt w ra r8 rl rn at' vl L k X) {B : Nat} (hb : Below B X Y) (h0 : w.heap.size ≤ B) (h1 : ra < B) (h2 : r8 < B) (h3 : rl < B) (h5 : rn < B) (h6 : ∀ ad n cp, vl = .slice (some ad) n cp → 0 < n → ad.block < B) : ChSt w ra r8 rl rn at' vl L k Y :=
  ⟨Keeps.of_below (h.kx.below.trans (hb.mono h0)), h.rd.below hb h6, (hb.block _ h1).trans h.ba, (hb.block _ h2).trans h.b8, (hb.block _ h3).trans h.bl, (hb.block _ h5).trans h.bn⟩

set_option maxRecDepth 100000 in
set_option maxHeartbeats 4000000 in
theorem law_chains (k : Int) (b : List Int) (v : Value) (at' many : Int) (m : List Int) (vm : Value) (w : World) (hv : RdI .u8 w v b) (hb : ∀ x ∈ b, 0 ≤ x ∧ x ≤ 255) (hvm : RdI .u8 w vm m) (hmb : ∀ x ∈ m, 0 ≤ x ∧ x ≤ 255)
    (ha : at' ≤ 9223372036854775807) (hm1 : -9223372036854775808 ≤ many) (hm2 : many ≤ 9223372036854775807) :
    Calls Try.prog 4 #[.int .i64 k, v, .int .i64 at', .int .i64 many, vm] w (LawEnd w) := by
  obtain ⟨A0, n, cp0, rfl, hnl, -⟩ := hv.form
  obtain ⟨Am, nm, cpm, rfl, hnm, -⟩ := hvm.form
  have q1 := (Blk.new w #[.int .i64 at'] 3).alloc (.cells #[.bool false] 4)
  have q2 := Blk.new (w.alloc (.cells #[.int .i64 at'] 3)) #[.bool false] 4
  have k0 : Keeps w ((w.alloc (.cells #[.int .i64 at'] 3)).alloc (.cells #[.bool false] 4)) [] := ((Keeps.refl w []).alloc _).alloc _
  rw [World.size_alloc] at q2
  by_cases hbad : 300 < n ∨ 100 < nm ∨ k < 1 ∨ 8 < k
  · clear hv hnl hb hvm hmb hnm
    have WK := works_true ((w.alloc (.cells #[.int .i64 at'] 3)).alloc (.cells #[.bool false] 4))
    rcases hbad with h1 | h1 | h1 | h1
    all_goals
      go_enter Try.func4, Try.ntmps4
      go_wp2_with (go_at_call 10; refine WK.mono ?_; rintro e w5 ⟨rfl, kk⟩; obtain ⟨c6, f6⟩ := (q2.keeps kk (by simp)).one)
      all_goals
        exact bodyPost_ret (v := .bool true) (res_cell Try.results4 rfl (Try.loadBool _ _ _ (World.cell?_setCell_same' _ _ _ (by rw [c6]; rfl)))) rfl (LawEnd.of_keeps ((k0.then kk).setCell (.inl (by simp)) _))
  · have h1 : ¬ 300 < n := by omega
    have h2 : ¬ k < 1 := by omega
    have h3 : ¬ 8 < k := by omega
    have h4 : ¬ 100 < nm := by omega
    obtain ⟨K, rfl⟩ := Int.eq_ofNat_of_zero_le (show 0 ≤ k by omega)
    have hK1 : 1 ≤ K := by omega
    have hK8 : K ≤ 8 := by omega
    have d1 : decide ((300 : Int) < (n : Int)) = false := decide_eq_false (by omega)
    have d2 : decide ((K : Int) < 1) = false := decide_eq_false (by omega)
    have d3 : decide ((8 : Int) < (K : Int)) = false := decide_eq_false (by omega)
    have d4 : decide ((100 : Int) < (nm : Int)) = false := decide_eq_false (by omega)
    have hn3 : n ≤ 300 := by omega
    have hm3 : nm ≤ 100 := by omega
    have HV := Lib.hid hv
    have HB := Lib.hid hb
    have HN := Lib.hid hnl
    have HVM := Lib.hid hvm
    have HMB := Lib.hid hmb
    have HNM := Lib.hid hnm
    clear hv hb hnl hbad h1 h2 h3 h4 hvm hmb hnm
    refine calls_of_marks Try.func4 rfl ?_
    simp only [Try.ntmps4, List.size_toArray, List.length_cons, List.length_nil, Nat.reduceAdd, Nat.reduceSub, Array.replicate_succ, Array.replicate_zero, List.push_toArray, List.append_toArray, List.nil_append, List.cons_append]
    go_wp2_with fail
    refine (new_yes K _ hK1 hK8).mono ?_
    rintro e w1 ⟨p, S1, rfl, i1, l1, k1⟩
    go_wp2_with fail
    refine (r_new_yes K w1 hK1 hK8).mono ?_
    rintro e w2 ⟨rfl, k2⟩
    go_wp2_with fail
    have hs2 := k2.size
    have hs1 := k1.size
    simp only [World.size_alloc] at hs1 l1
    have kw2 : Keeps w w2 [] := (k0.then k1).then k2
    refine (add_any p K [] b _ S1 _ ((i1.keep k2).keep ((Keeps.refl w2 []).alloc _)) ((HV.out.keeps kw2).keeps ((Keeps.refl w2 []).alloc _)) HB.out (by have := HN.out; simp; omega)).mono ?_
    rintro e w3 ⟨rfl, S3, i3, l3, k3⟩
    rw [List.nil_append] at i3
    have l3' : ∀ x ∈ S3, w.heap.size + 2 ≤ x ∧ x ≠ w2.heap.size := fun x hx => by
      rcases l3 _ hx with h | h
      · exact ⟨l1 _ h, by have := i1.lt _ h; omega⟩
      · rw [World.size_alloc] at h; exact ⟨by omega, by omega⟩
    have kw3 : Keeps w w3 [] := (kw2.alloc _).trans k3 (fun x hx hlt => absurd (l1 x hx) (by omega))
    have notS1 : ∀ z, z < w.heap.size + 2 → z ∉ S1 := fun z hz hm => by have := l1 z hm; omega
    have bW := (Blk.new w2 #[.int .i64 (K : Int), .slice none 0 0] 29).keeps k3 (fun hm => by have := i1.lt _ hm; omega)
    have q13 := (((q1.keeps k1 (by simp)).keeps k2 (by simp)).alloc (.cells #[.int .i64 (K : Int), .slice none 0 0] 29)).keeps k3 (notS1 _ (by omega))
    have q23 := (((q2.keeps k1 (by simp)).keeps k2 (by simp)).alloc (.cells #[.int .i64 (K : Int), .slice none 0 0] 29)).keeps k3 (notS1 _ (by omega))
    obtain ⟨g0, g1⟩ := (⟨bW.cell 0, bW.cell 1⟩ : _ ∧ _)
    go_wp2_with fail
    refine (r_add K (.slice none 0 0) _ [] b w3 RdI.nil (HV.out.keeps kw3) (by have := HN.out; simp; omega)).mono ?_
    rintro e w4 ⟨v4, rfl, r4, k4, hv4⟩
    rw [List.nil_append] at r4
    obtain ⟨A4, n4, c4, rfl, hn4, -⟩ := r4.form
    have HN4 := Lib.hid hn4
    have bW4 := bW.keeps k4 (by simp)
    have i4 := i3.keep k4
    have lW4 := bW4.lt
    obtain ⟨h0, h1, f0, f1⟩ := (⟨bW4.cell 0, bW4.cell 1, bW4.frozen 0, bW4.frozen 1⟩ : _ ∧ _ ∧ _ ∧ _)
    obtain ⟨a0, -⟩ := (q13.keeps k4 (by simp)).one
    have kw4 := kw3.then k4
    clear g0 g1 hn4
    have hs3 := k3.size
    have hs4 := k4.size
    rw [World.size_alloc] at hs3
    have ne1 : ¬ w2.heap.size = w.heap.size := by omega
    have ne2 : ¬ w2.heap.size = w.heap.size + 1 := by omega
    go_wp2_with fail
    have bW5 : Blk ((w4.setCell ⟨w2.heap.size, 0, none⟩ (.int .i64 (K : Int))).setCell ⟨w2.heap.size, 1, none⟩ (.slice A4 n4 c4)) w2.heap.size #[.int .i64 (K : Int), .slice A4 n4 c4] 29 := (bW4.set 0 _).set 1 _
    have k5 : Keeps w4 ((w4.setCell ⟨w2.heap.size, 0, none⟩ (.int .i64 (K : Int))).setCell ⟨w2.heap.size, 1, none⟩ (.slice A4 n4 c4)) [w2.heap.size] := ((Keeps.refl w4 _).setCell (.inr (by simp)) _).setCell (.inr (by simp)) _
    have i5 := i4.keeps k5 (fun x hx hm => (l3' x hx).2 (List.mem_singleton.1 hm))
    have kw5 : Keeps w _ [] := kw4.trans k5 (fun x hx hlt => by have := List.mem_singleton.1 hx; omega)
    have r5 := r4.keepsS k5 (fun ad m cp he h0 hm => by have := hv4 ad m cp he; have := List.mem_singleton.1 hm; have := bW.lt; omega)
    have q15 := (q13.keeps k4 (by simp)).keeps k5 (fun hm => by have := List.mem_singleton.1 hm; omega)
    have q25 := (q23.keeps k4 (by simp)).keeps k5 (fun hm => by have := List.mem_singleton.1 hm; omega)
    generalize ((w4.setCell ⟨w2.heap.size, 0, none⟩ (.int .i64 (K : Int))).setCell ⟨w2.heap.size, 1, none⟩ (.slice A4 n4 c4)) = w5 at *
    have hl35 : ∀ x ∈ S3, w.heap.size + 2 ≤ x ∧ x < w5.heap.size := fun x hx => ⟨(l3' x hx).1, i5.lt x hx⟩
    have HL35 := Lib.hid hl35
    have hln := refChain_len K b at'
    have hnkb : nk K b ≤ b.length := by unfold nk; omega
    have hlow : w.heap.size + 2 < w5.heap.size := by have := bW5.lt; omega
    have H4 := Lib.hid hv4
    have hL0 : ∃ L, L = refChain K b at' := ⟨_, rfl⟩
    obtain ⟨L, hL⟩ := hL0
    have hlL : L.length ≤ 300 := by rw [hL]; have := HN.out; omega
    have HL := Lib.hid hL.symm
    clear hl35 hln hnkb l1 l3 l3' notS1 hv4 i1 i3 i4 r4 k1 k2 k3 k4 kw2 kw3 kw4 k5 h0 h1 f0 f1 a0 bW bW4 q1 q2 q13 q23 hs1 hs2 hs3 hs4 lW4 hL
    refine (r_chain K (.slice A4 n4 c4) b at' w5 r5 i5.2).mono ?_
    rintro e w6 ⟨v6, rfl, r6, k6, hv6⟩
    rw [HL.out] at r6
    obtain ⟨A6, n6, c6, rfl, hn6, -⟩ := r6.form
    have HN6 := Lib.hid hn6
    have i6 := i5.keep k6
    obtain ⟨a0, -⟩ := ((q15.keeps k6 (by simp)).alloc (.cells #[.slice A6 n6 c6] 37)).one
    clear hn6
    go_wp2_with fail
    refine (chain_any p K b S3 at' _ (i6.keep ((Keeps.refl w6 []).alloc _))).mono ?_
    rintro e w7 ⟨bl, bt, ad, cp, rfl, bL, bT, rL, hfr, hbl, hbt, k7⟩
    rw [HL.out] at bL rL
    simp only [World.size_alloc] at hfr hbl hbt
    have i7 := (i6.keep ((Keeps.refl w6 []).alloc (.cells #[.slice A6 n6 c6] 37))).keep k7
    have r7 := (r6.keeps ((Keeps.refl w6 []).alloc (.cells #[.slice A6 n6 c6] 37))).keeps k7
    have q17 := ((q15.keeps k6 (by simp)).alloc (.cells #[.slice A6 n6 c6] 37)).keeps k7 (by simp)
    have q27 := ((q25.keeps k6 (by simp)).alloc (.cells #[.slice A6 n6 c6] 37)).keeps k7 (by simp)
    have bl7 := (Blk.new w6 #[.slice A6 n6 c6] 37).keeps k7 (by simp)
    have kw7 := ((kw5.then k6).alloc (.cells #[.slice A6 n6 c6] 37)).then k7
    clear a0
    obtain ⟨a0, -⟩ := q17.one
    obtain ⟨b0, -⟩ := bl7.one
    have OV := over_any p K b S3 at' many L (.slice A6 n6 c6) w7 i7 HL.out r7 ha hm1 hm2
    go_wp2_with (first | (go_at_call 18; refine (num_any _ _).mono ?_; rintro e w' ⟨rfl, rfl⟩) | (go_at_call 20; refine OV.mono ?_; rintro e w8 ⟨rfl, k8⟩))
    have hs6 := k6.size
    have hs7 := k7.size
    have hs8 := k8.size
    rw [World.size_alloc] at hs7
    have notS : ∀ z, (z < w.heap.size + 2 ∨ w5.heap.size ≤ z) → z ∉ S3 := fun z hz hm => by have := HL35.out z hm; omega
    refine (add_any p K b m _ S3 w8 (i7.keep k8) (HVM.out.keeps (kw7.then k8)) HMB.out (by have := HN.out; have := HNM.out; omega)).mono ?_
    rintro e w9 ⟨rfl, S9, -, -, k9⟩
    have hs9 := k9.size
    have bL9 := (bL.keeps k8 (by simp)).keeps k9 (notS _ (by omega))
    have bT9 := (bT.keeps k8 (by simp)).keeps k9 (notS _ (by omega))
    have rL9 := (rL.keeps k8).keepsS k9 (fun a n c he h0 hm => notS _ (.inr (by cases he; have := (hfr _ rfl).1; omega)) hm)
    have r9 := (r7.keeps k8).keepsS k9 (fun a n c he h0 hm => notS _ (.inr (hv6 _ _ _ he)) hm)
    have q19 := (q17.keeps k8 (by simp)).keeps k9 (notS _ (by omega))
    have q29 := (q27.keeps k8 (by simp)).keeps k9 (notS _ (by omega))
    have bl9 := (bl7.keeps k8 (by simp)).keeps k9 (notS _ (by omega))
    have kw9 : Keeps w w9 [] := (kw7.then k8).trans k9 (fun x hx hlt => by have := HL35.out x hx; omega)
    clear a0 b0
    go_wp2_with fail
    have st0 : ChSt w w.heap.size (w.heap.size + 1) w6.heap.size w9.heap.size at' (.slice A6 n6 c6) L 0 (w9.alloc (.cells #[.int .i64 0] 3)) :=
      ⟨kw9.alloc _, r9.keeps ((Keeps.refl w9 []).alloc _), q19.alloc _, q29.alloc _, bl9.alloc _, Blk.new _ _ _⟩
    have bL1 := bL9.alloc (.cells #[.int .i64 0] 3)
    have bT1 := bT9.alloc (.cells #[.int .i64 0] 3)
    have rL1 := rL9.keeps ((Keeps.refl w9 []).alloc (.cells #[.int .i64 0] 3))
    have hA6 : ∀ a n c, Value.slice A6 n6 c6 = .slice (some a) n c → 0 < n → a.block < w9.heap.size := fun a n c he h0 => by
      obtain ⟨b', o', h5, h6, -⟩ := r9.addr (n := n6) (by cases he; exact h0)
      cases he
      cases h5
      exact h6
    have hsz : (w9.alloc (.cells #[.int .i64 0] 3)).heap.size = w9.heap.size + 1 := by simp
    have hcb : ∀ x ∈ L, 0 ≤ x ∧ x < at' := by rw [← HL.out]; exact chain_bd
    have HCB := Lib.hid hcb
    have lbt := bT.lt
    have HFR := Lib.hid hfr
    have HA6 := Lib.hid hA6
    clear hfr hcb hA6 bL9 bT9 rL9 r9 q19 q29 bl9 bL bT rL r7 q17 q27 bl7 r6 q15 q25 i7 i6 i5 r5 bW5 kw7 kw5 k6 k7 k8 k9 hv6 notS kw9
    generalize (w9.alloc (.cells #[.int .i64 0] 3)) = W1 at *
    refine range_PX (gf := 35) (lb := #[.pointer (some ⟨bl, 0, none⟩), .pointer (some ⟨bt, 0, none⟩)]) rfl (enters_of Try.func35 (by kernel_rfl) rfl)
      (chain2 bl bt ad L.length cp L at' W1 bL1 bT1 rL1 (by omega) HCB.out ha) [w9.heap.size] ?hC ?hfine (fun _ => rfl) 0
      (fun pre X => ∃ k : Nat, pre = upto (itemC L at') k ∧ k ≤ L.length ∧ ChSt w w.heap.size (w.heap.size + 1) w6.heap.size w9.heap.size at' (.slice A6 n6 c6) L k X)
      (fun pre X => False)
      (fun X => ChSt w w.heap.size (w.heap.size + 1) w6.heap.size w9.heap.size at' (.slice A6 n6 c6) L L.length X)
      ?hI ?hIx ?h0 ?hround ?hdone ?hstop ?hex ?hrest
    case hC => intro x hx; have := List.mem_singleton.1 hx; subst this; exact ⟨by omega, fun h0 p hp => by have := (HFR.out p hp).2; omega, by omega⟩
    case hfine => exact ⟨fun h0 p hp => by have := (HFR.out p hp).2; omega, by omega⟩
    case hI =>
      rintro s A B' ⟨k, h1, h2, h4⟩ hab
      exact ⟨k, h1, h2, h4.below hab (by omega) (by omega) (by omega) (by omega) (by omega) (fun a n c he h0 => by have := HA6.out a n c he h0; omega)⟩
    case hIx => exact fun s A B h _ => h
    case hstop => exact fun pre X _ h => h.elim
    case hex => exact fun a' W h => by simpa [Exit.inBlock, Exit.noGoto] using h
    case h0 => exact ⟨0, rfl, Nat.zero_le _, st0⟩
    case hdone =>
      rintro xs X hS ⟨k, h1, h2, h4⟩
      have hkS : k = L.length := by
        rw [hS] at h1
        simpa [upto_length] using (congrArg List.length h1).symm
      rw [← hkS]; exact h4
    case hround =>
      rintro l' pre x W2 hle hlt2 ⟨k, rfl, hk, st⟩ hsp
      obtain ⟨hkl, hxx⟩ := upto_next hsp
      obtain ⟨y, hx⟩ : ∃ y, L[k]? = some y := ⟨_, List.getElem?_eq_getElem hkl⟩
      have hic : itemC L at' k = (y, at' - y) := by simp [itemC, hx]
      rw [hic] at hxx
      subst hxx
      have hv : 0 ≤ y ∧ y < at' := HCB.out y (List.mem_of_getElem? hx)
      gi_wp2
      refine ⟨Keeps.refl W2 _, fun W3 hT => ?_⟩
      have st3 := st.below (hT.below (B := w9.heap.size + 1) (by omega)) (by omega) (by omega) (by omega) (by omega) (by omega) (fun a n c he h0 => by have := HA6.out a n c he h0; omega)
      obtain ⟨d0, -⟩ := st3.ba.one
      obtain ⟨e0, -⟩ := st3.bl.one
      obtain ⟨n1, nf1⟩ := st3.bn.one
      obtain ⟨bb, oo, rfl, hbb, x0⟩ := st3.rd.at hx
      have hk1 : (k : Int) < (n6 : Int) := by have := HN6.out; omega
      have hk0 : (0 : Int) ≤ (k : Int) := Int.natCast_nonneg _
      have hge : decide (n6 ≤ k) = false := by simp; omega
      have HX := Lib.hid hx
      have HIC := Lib.hid hic
      have hv1 := hv.1
      have hv2 := hv.2
      have hyy : (y != y) = false := by simp
      have hyz : (at' - y != at' - y) = false := by simp
      have hcap := st3.rd.cap
      clear hx hic hv hsp hT st
      gi_wp2
      have k4 : Keeps W3 (W3.setCell ⟨w9.heap.size, 0, none⟩ (.int .i64 ((k : Int) + 1))) [w9.heap.size] := (Keeps.refl W3 _).setCell (.inr (by simp)) _
      exact ⟨k4, k + 1, by rw [upto_succ, HIC.out], hkl, (st3.kx.setCell (.inl (by dsimp only; omega)) _), st3.rd.keepsS k4 (fun a n c he h0 hm => by have := HA6.out a n c he h0; have := List.mem_singleton.1 hm; omega),
        st3.ba.setOther (by dsimp only; omega) _, st3.b8.setOther (by dsimp only; omega) _, st3.bl.setOther (by dsimp only; omega) _, by have := st3.bn.set 0 (.int .i64 ((k : Int) + 1)); simpa using this⟩
    case hrest =>
      rintro D X hD hK st
      obtain ⟨e0, -⟩ := st.bl.one
      obtain ⟨n1, nf1⟩ := st.bn.one
      have hn : ((L.length : Int) == (n6 : Int)) = true := by have := HN6.out; simp; omega
      have WK := works_true X
      have e1 := hK
      have hDX : D < X.heap.size := (Array.getElem?_eq_some_iff.1 hK).1
      go_wp2_with (go_at_call 10; refine WK.mono ?_; rintro e X2 ⟨rfl, kk⟩; obtain ⟨c6, f6⟩ := (st.b8.keeps kk (by simp)).one)
      all_goals
        have e2 : ∀ b, (X2.setCell ⟨w.heap.size + 1, 0, none⟩ (.bool b)).heap[D]? = some (.deferred (some [])) := fun b => (Below.heap_setCell X2 _ _ D (by dsimp only; omega)).trans ((kk.block D hDX (by simp)).trans e1)
        refine ⟨by simp, .inl ⟨_, _, rfl, run_takeDeferred (e2 _), ?_⟩⟩
        have b8 := ((st.b8.keeps kk (by simp)).set 0 (.bool true))
        have b9 : Blk ((X2.setCell ⟨w.heap.size + 1, 0, none⟩ (.bool true)).putObj D (.deferred none)) (w.heap.size + 1) #[.bool true] 4 := (World.putObj_heap_other (by omega)).trans b8
        have kf : Below w.heap.size w ((X2.setCell ⟨w.heap.size + 1, 0, none⟩ (.bool true)).putObj D (.deferred none)) := (((st.kx.then kk).setCell (.inl (by dsimp only; omega)) _).below.trans (Turn.below (e2 true) (by omega)))
        exact ⟨_, res_cell Try.results4 rfl (Try.loadBool _ _ _ (b9.cell 0)), rfl, kf⟩

end Go.Proofs.Yticlhaofmcajpaa
