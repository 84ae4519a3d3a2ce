/-
  Walks over the reference of dictionaries: Get. (Printed by mkGi.py.)
-/
import Derived.Test.YtcmagccfagijlaaGreatQ43
namespace Go.Proofs.YtcmagccfagijlaaGreat
set_option linter.unusedVariables false
set_option linter.unusedSimpArgs false
set_option linter.unusedSectionVars false
open Go.RowKit

/-- The reference's Get at work: the result's cell, the dictionary at block g. -/
structure RS (w W : World) (g : Nat) (d : DV) : Prop where
  b2 : Blk W w.heap.size zeroC 32
  b7 : Blk W g (dictC d.id d.t d.g1 d.n1 d.g2 d.n2 d.g3 d.n3 d.a d.b d.c d.x) 32
  kw : Keeps w W []
  lt : w.heap.size < g
  rt : RdI .i64 W d.t d.T
  r1 : RdI .i64 W d.n1 d.L1
  r2 : RdI .i64 W d.n2 d.L2
  r3 : RdI .i64 W d.n3 d.L3
  ft : Fresh (g + 1) d.t
  f1 : Fresh (g + 1) d.n1
  f2 : Fresh (g + 1) d.n2
  f3 : Fresh (g + 1) d.n3
  x8 : ∀ y, d.x ≠ .int .u8 y
theorem RS.call {w W W' : World} {g : Nat} {d : DV} (h : RS w W g d) (kk : Keeps W W' []) : RS w W' g d :=
  ⟨h.b2.keeps kk (by simp), h.b7.keeps kk (by simp), h.kw.then kk, h.lt, h.rt.keeps kk, h.r1.keeps kk, h.r2.keeps kk, h.r3.keeps kk, h.ft, h.f1, h.f2, h.f3, h.x8⟩
theorem RS.set {w W W' : World} {g : Nat} {d d' : DV} (h : RS w W g d) (kk : Keeps W W' [g]) (hb : Blk W' g (dictC d'.id d'.t d'.g1 d'.n1 d'.g2 d'.n2 d'.g3 d'.n3 d'.a d'.b d'.c d'.x) 32)
    (ht : RdI .i64 W d'.t d'.T ∧ Fresh (g + 1) d'.t) (h1 : RdI .i64 W d'.n1 d'.L1 ∧ Fresh (g + 1) d'.n1) (h2 : RdI .i64 W d'.n2 d'.L2 ∧ Fresh (g + 1) d'.n2) (h3 : RdI .i64 W d'.n3 d'.L3 ∧ Fresh (g + 1) d'.n3) (hx8 : d'.x = d.x) : RS w W' g d' := by
  have hl := h.lt
  exact ⟨h.b2.keeps kk (by simp; omega), hb, h.kw.trans kk (fun j hj hlt => by simp at hj; omega), hl, ht.1.past ht.2 kk (by omega), h1.1.past h1.2 kk (by omega), h2.1.past h2.2 kk (by omega), h3.1.past h3.2 kk (by omega), ht.2, h1.2, h2.2, h3.2, fun y => by rw [hx8]; exact h.x8 y⟩
theorem RS.size {w W : World} {g : Nat} {d : DV} (h : RS w W g d) : g < W.heap.size := h.b7.lt

theorem RdI.past8 {w w' : World} {g : Nat} {cs : Array Value} {T : TypeId} {v : Value} {l : List Int} (h : RdI .u8 w v l) (hb : Blk w g cs T) (hc : ∀ (i : Nat) (x : Int), cs[i]? ≠ some (.int .u8 x)) (kk : Keeps w w' [g]) : RdI .u8 w' v l := by
  refine h.keepsS kk ?_
  rintro ad n cp rfl hn hm
  obtain ⟨b, o, ha, hbl, hcell⟩ := h.addr hn
  cases ha
  have hl := h.len
  simp at hm
  subst hm
  have h1 := hcell 0 _ (List.getElem?_eq_getElem (by omega))
  rw [hb.cell] at h1
  exact hc _ _ h1
theorem dictC_no8 (id g1 g2 g3 a b c : Int) (t n1 n2 n3 x : Value) (ht : ∀ y, t ≠ .int .u8 y) (h1 : ∀ y, n1 ≠ .int .u8 y) (h2 : ∀ y, n2 ≠ .int .u8 y) (h3 : ∀ y, n3 ≠ .int .u8 y) (hx : ∀ y, x ≠ .int .u8 y) : ∀ (i : Nat) (y : Int), (dictC id t g1 n1 g2 n2 g3 n3 a b c x)[i]? ≠ some (.int .u8 y) := by
  intro i y e
  have hi : i < 12 := by
    rcases Nat.lt_or_ge i 12 with h | h
    · exact h
    · rw [Array.getElem?_eq_none (by simpa [dictC] using h)] at e; cases e
  have : i = 0 ∨ i = 1 ∨ i = 2 ∨ i = 3 ∨ i = 4 ∨ i = 5 ∨ i = 6 ∨ i = 7 ∨ i = 8 ∨ i = 9 ∨ i = 10 ∨ i = 11 := by omega
  rcases this with rfl | rfl | rfl | rfl | rfl | rfl | rfl | rfl | rfl | rfl | rfl | rfl <;> simp [dictC] at e
  · exact ht _ e
  · exact h1 _ e
  · exact h2 _ e
  · exact h3 _ e
  · exact hx _ e

/-- The memory in the loop over the tables: the three literals as well. -/
structure RL (w W : World) (g h : Nat) (d : DV) : Prop where
  rs : RS w W g d
  p8 : Blk W h #[.pointer (some ⟨g, 4, none⟩), .pointer (some ⟨g, 6, none⟩), .pointer (some ⟨g, 2, none⟩)] 77
  p9 : Blk W (h + 1) #[.int .i64 28, .int .i64 44, .int .i64 44] 3
  p10 : Blk W (h + 1 + 1) #[.int .i64 8, .int .i64 9, .int .i64 9] 3
  lt : g < h
theorem RL.call {w W W' : World} {g h : Nat} {d : DV} (x : RL w W g h d) (kk : Keeps W W' []) : RL w W' g h d :=
  ⟨x.rs.call kk, x.p8.keeps kk (by simp), x.p9.keeps kk (by simp), x.p10.keeps kk (by simp), x.lt⟩
theorem RL.set {w W W' : World} {g h : Nat} {d d' : DV} (x : RL w W g h d) (kk : Keeps W W' [g]) (y : RS w W' g d') : RL w W' g h d' := by
  have := x.lt
  exact ⟨y, x.p8.keeps kk (by simp; omega), x.p9.keeps kk (by simp; omega), x.p10.keeps kk (by simp; omega), x.lt⟩
def dOf (d : DV) : DD := ⟨d.id, d.T, d.g1, d.L1, d.g2, d.L2, d.g3, d.L3, d.a, d.b, d.c, d.X⟩
/-- getD2, a table at a time: f tables more. -/
def getT (B : List Int) : Nat → Nat → DD → Except Int DD
  | 0, k, D => getD3 B k D
  | 1, k, D => match descP ((B.drop k).take 1024) 44 9 with
    | .error n => .error n
    | .ok (g, L, m) => getD3 B (k + m) { D with g1 := (g : Nat), L1 := L }
  | 2, k, D => match descP ((B.drop k).take 1024) 44 9 with
    | .error n => .error n
    | .ok (g, L, m) => getT B 1 (k + m) { D with g3 := (g : Nat), L3 := L }
  | _ + 3, k, D => match descP ((B.drop k).take 1024) 28 8 with
    | .error n => .error n
    | .ok (g, L, m) => getT B 2 (k + m) { D with g2 := (g : Nat), L2 := L }
theorem getT_all (B : List Int) (k : Nat) (D : DD) : getD2 B k D = getT B 3 k D := by
  unfold getD2
  simp only [getT]
  rcases descP ((B.drop k).take 1024) 28 8 with n | ⟨g2, L2, m2⟩
  · rfl
  simp only
  rcases descP ((B.drop (k + m2)).take 1024) 44 9 with n | ⟨g3, L3, m3⟩
  · rfl
  simp only
  rcases descP ((B.drop (k + m2 + m3)).take 1024) 44 9 with n | ⟨g1, L1, m1⟩
  · rfl
  · rfl
theorem getT0 {B : List Int} {k : Nat} {D : DD} : getT B 0 k D = getD3 B k D := by rw [getT]
theorem getT_ok3 {B L : List Int} {k g m : Nat} {D : DD} (h : descP ((B.drop k).take 1024) 28 8 = .ok (g, L, m)) : getT B 3 k D = getT B 2 (k + m) { D with g2 := (g : Nat), L2 := L } := by
  conv => lhs; rw [getT, h]
theorem getT_ok2 {B L : List Int} {k g m : Nat} {D : DD} (h : descP ((B.drop k).take 1024) 44 9 = .ok (g, L, m)) : getT B 2 k D = getT B 1 (k + m) { D with g3 := (g : Nat), L3 := L } := by
  conv => lhs; rw [getT, h]
theorem getT_ok1 {B L : List Int} {k g m : Nat} {D : DD} (h : descP ((B.drop k).take 1024) 44 9 = .ok (g, L, m)) : getT B 1 k D = getT B 0 (k + m) { D with g1 := (g : Nat), L1 := L } := by
  rw [getT0, getT, h]
/-- What reference 11's Get returns: the table's log and norm, the position, the error. -/
def tabR (Z : Except Int (Nat × List Int × Nat)) (k : Nat) : Int × List Int × Int × Int := match Z with
  | .ok (G, l, m) => ((G : Int), l, ((k + m : Nat) : Int), 0)
  | .error n => (0, [], (k : Int), n)
theorem tget_any (k sy : Nat) (lg : Int) (v : Value) (B : List Int) (w : World) (hv : RdI .u8 w v B) (hl : B.length ≤ 100000) (hB : ∀ x ∈ B, 0 ≤ x ∧ x ≤ 255) (ha : k ≤ B.length) (hs : sy ≤ 256) {Gv kv er : Int} {Lp : List Int} (h : tabR (descP ((B.drop k).take 1024) sy lg) k = (Gv, Lp, kv, er)) :
    Calls Tryz.prog 52 #[v, .int .i64 (k : Int), .int .i64 (sy : Int), .int .i64 lg] w fun e w' => ∃ a n c, e = .returned (.tuple #[.agg #[.int .i64 Gv, .slice a n c], .int .i64 kv, .int .i64 er]) ∧ RdI .i64 w' (.slice a n c) Lp ∧ Fresh w.heap.size (.slice a n c) ∧ (∀ n', descP ((B.drop k).take 1024) sy lg = .error n' → n' ≠ 0) ∧ Keeps w w' [] := by
  rw [descP_cut _ _ _ hs] at h ⊢
  refine (rdget_any k sy lg v B w hv hl hB ha hs).mono ?_
  intro e w' hh
  unfold RGetEnd at hh
  rcases hd : descP (B.drop k) sy lg with n | ⟨G, l, m⟩
  · rw [hd] at h hh
    obtain ⟨kk, hn, rfl⟩ := hh
    simp only [tabR, Prod.mk.injEq] at h
    obtain ⟨rfl, rfl, rfl, rfl⟩ := h
    exact ⟨_, _, _, rfl, .nil, .nil, fun n' e => by cases e; exact hn, kk⟩
  · rw [hd] at h hh
    obtain ⟨kk, a, c, rfl, own, hll⟩ := hh
    simp only [tabR, Prod.mk.injEq] at h
    obtain ⟨rfl, rfl, rfl, rfl⟩ := h
    exact ⟨_, _, _, rfl, own_reads own, own_freshI own, (fun n' e => nomatch e), kk⟩

/-- How the reference's Get ends. -/
def RGotA (w : World) (R : Except Int DD) (e : Ending) (w' : World) : Prop :=
  Keeps w w' [] ∧ match R with
    | .ok D => ∃ t n1 n2 n3 x, e = .returned (.tuple #[.agg (dictC D.id t D.g1 n1 D.g2 n2 D.g3 n3 D.a D.b D.c x), .int .i64 0]) ∧ RdI .i64 w' t D.T ∧ RdI .i64 w' n1 D.L1 ∧ RdI .i64 w' n2 D.L2 ∧ RdI .i64 w' n3 D.L3 ∧ RdI .u8 w' x D.X
    | .error n => n ≠ 0 ∧ e = .returned (.tuple #[.agg zeroC, .int .i64 n])

set_option maxRecDepth 100000 in
set_option maxHeartbeats 4000000 in
theorem rget_raw (v : Value) (B : List Int) (w : World) (hv : RdI .u8 w v B) (hl : B.length ≤ 100000) (hb : ∀ x ∈ B, 0 ≤ x ∧ x ≤ 255) (hm : markB B = false) :
    Calls Tryz.prog 25 #[v] w (RGotA w (.ok ⟨0, [], 0, [], 0, [], 0, [], 1, 4, 8, B⟩)) := by
  have HM := Lib.hid (fun w1 (k : Keeps w w1 []) => r_marked v B w1 (hv.keeps k) hb)
  rw [hm] at HM
  have HP := Lib.hid (fun w1 (k : Keeps w w1 []) => r_plain v B w1 (hv.keeps k) (by omega))
  obtain ⟨A0, n, cp, rfl, hn, -⟩ := hv.form
  have hgt : decide ((134217728 : Int) < (n : Int)) = false := decide_eq_false (by omega)
  have hgtN : decide (134217728 < n) = false := decide_eq_false (by omega)
  have b2 := Blk.new w zeroC 32
  have k0 := (Keeps.refl w []).alloc (.cells zeroC 32)
  clear hv hm hb hl hn
  go_enter Tryz.func25, Tryz.ntmps25
  go_wp2_with (first
    | (go_at_call 14; go_loud (refine (HM.out _ k0).mono ?_; rintro e w1 ⟨rfl, hw1⟩; rw [hw1]; clear hw1))
    | (go_at_call 16; go_loud (refine (HP.out _ k0).mono ?_; rintro e w2 ⟨x, rfl, rx, fx, k2⟩; obtain ⟨xa, xm, xc, rfl, -, -⟩ := rx.form; have RX := Lib.hid rx; have FX := Lib.hid fx; have b3 := b2.keeps k2 (by simp); have kk := k0.then k2; clear rx fx))
    | (refine wpList_store_blk rfl 32 _ _ rfl w.heap.size (rawC (.slice xa xm xc)) rfl rfl _ _ b3 dict_size rfl (by simp [Value.oneCell']) ?_; intro W3 b9 k9))
  refine bodyPost_ret (v := .tuple #[.agg (rawC (.slice xa xm xc)), .int .i64 0]) (res_cell_tmp rfl rfl rfl (load_dict b9 rfl)) rfl ⟨kk.trans k9 (fun j hj hlt => by simp at hj; omega), _, _, _, _, _, rfl, .nil, .nil, .nil, .nil, RX.out.past FX.out k9 (by simp)⟩

set_option maxRecDepth 100000 in
set_option maxHeartbeats 16000000 in
theorem rget_full (v : Value) (B : List Int) (w : World) (hv : RdI .u8 w v B) (hl : B.length ≤ 100000) (hb : ∀ x ∈ B, 0 ≤ x ∧ x ≤ 255) (hm : markB B = true) :
    Calls Tryz.prog 25 #[v] w (RGotA w (getD B 4)) := by
  have h4 : 4 ≤ B.length := by
    have := congrArg List.length (of_decide_eq_true hm)
    simp at this; omega
  obtain ⟨R, hR⟩ : ∃ R, getD B 4 = R := ⟨_, rfl⟩
  rw [hR]
  unfold getD at hR
  have HM := Lib.hid (fun w1 (k : Keeps w w1 []) => r_marked v B w1 (hv.keeps k) hb)
  rw [hm] at HM
  have HW := Lib.hid (fun w1 (k : Keeps w w1 []) => rgword_4 v B w1 (hv.keeps k) (by omega) hb h4)
  have HV := Lib.hid hv
  have HLb := Lib.hid (And.intro hl hb)
  have hKle : bytesK B 4 4 ≤ B.length := bytesK_le (m := 4) h4
  have HKW := Lib.hid hKle
  obtain ⟨A0, n, cp, rfl, hn, -⟩ := hv.form
  have HN := Lib.hid hn
  have b2 := Blk.new w zeroC 32
  have k0 := (Keeps.refl w []).alloc (.cells zeroC 32)
  obtain ⟨E, hEq⟩ : ∃ E, bytesE B 4 4 = E := ⟨_, rfl⟩
  obtain ⟨KW, hKq⟩ : ∃ K, bytesK B 4 4 = K := ⟨_, rfl⟩
  rw [hEq, hKq] at HW hR
  rw [hKq] at HKW
  have hwx : E = 0 → wdX B = wordL (bytesX B 4 4) := fun h => by unfold wdX; rw [hEq, if_pos h]
  clear hv hm hb hl hn h4 hEq hKq hKle
  by_cases hE : E ≠ 0
  · rw [if_pos hE] at hR
    subst hR
    have HE := Lib.hid hE
    have hE1 : (E != 0) = true := by simpa using hE
    have hE2 : (E == 0) = false := by simpa using hE
    clear hE hwx
    go_enter Tryz.func25, Tryz.ntmps25
    go_wp2_with (first
      | (go_at_call 14; go_loud (refine (HM.out _ k0).mono ?_; rintro e w1 ⟨rfl, hw1⟩; rw [hw1]; clear hw1))
      | (go_at_call 50; go_loud (refine (HW.out _ k0).mono ?_; rintro e w2 ⟨rfl, k2⟩; have b3 := b2.keeps k2 (by simp); have kk := k0.then k2))
      | (refine wpList_store_blk rfl 32 _ _ rfl w.heap.size zeroC rfl rfl _ _ b3 dict_size rfl (by simp [Value.oneCell']) ?_; intro W3 b9 k9))
    exact bodyPost_ret (v := .tuple #[.agg zeroC, .int .i64 E]) (res_cell_tmp rfl rfl rfl (load_dict b9 rfl)) rfl ⟨kk.trans k9 (fun j hj hlt => by simp at hj; omega), HE.out, rfl⟩
  rw [if_neg hE] at hR
  obtain rfl : E = 0 := by simpa using hE
  rw [hwx rfl] at HW
  obtain ⟨X, hX⟩ : ∃ X, wordL (bytesX B 4 4) = X := ⟨_, rfl⟩
  rw [hX] at HW hR
  clear hwx hE hX
  by_cases hZ : X = 0
  · subst hZ
    rw [if_pos rfl] at hR
    subst hR
    go_enter Tryz.func25, Tryz.ntmps25
    go_wp2_with (first
      | (go_at_call 14; go_loud (refine (HM.out _ k0).mono ?_; rintro e w1 ⟨rfl, hw1⟩; rw [hw1]; clear hw1))
      | (go_at_call 50; go_loud (refine (HW.out _ k0).mono ?_; rintro e w2 ⟨rfl, k2⟩; have b3 := b2.keeps k2 (by simp); have kk := k0.then k2))
      | (refine wpList_store_blk rfl 32 _ _ rfl w.heap.size zeroC rfl rfl _ _ b3 dict_size rfl (by simp [Value.oneCell']) ?_; intro W3 b9 k9))
    exact bodyPost_ret (v := .tuple #[.agg zeroC, .int .i64 9]) (res_cell_tmp rfl rfl rfl (load_dict b9 rfl)) rfl ⟨kk.trans k9 (fun j hj hlt => by simp at hj; omega), by decide, rfl⟩
  rw [if_neg hZ] at hR
  have HR1 := Lib.hid hR
  have hX1 : (X == 0) = false := by simpa using hZ
  clear hR hZ
  go_enter Tryz.func25, Tryz.ntmps25
  go_wp2_with (first
    | (go_at_call 14; go_loud (refine (HM.out _ k0).mono ?_; rintro e w1 ⟨rfl, hw1⟩; rw [hw1]; clear hw1))
    | (go_at_call 50; go_loud (refine (HW.out _ k0).mono ?_; rintro e w2 ⟨rfl, k2⟩; have b3 := b2.keeps k2 (by simp); have kk := k0.then k2; have c7 := Blk.new w2 zeroC 32))
    | (refine wpList_store_blk rfl 32 _ _ rfl w2.heap.size (dictC X nilV 0 nilV 0 nilV 0 nilV 0 0 0 nilV) rfl rfl _ _ c7 dict_size rfl (by simp [Value.oneCell']) ?_; intro W3 b7 k7))
  have hg : w.heap.size < w2.heap.size := b3.lt
  have S3 := Lib.hid (show RS w W3 w2.heap.size ⟨X, nilV, nilV, nilV, nilV, nilV, [], [], [], [], [], 0, 0, 0, 0, 0, 0⟩ from
    ⟨(b3.alloc _).keeps k7 (by simp; omega), b7, (kk.alloc _).trans k7 (fun j hj hlt => by simp at hj; omega), hg, .nil, .nil, .nil, .nil, .nil, .nil, .nil, .nil, fun y h => by cases h⟩)
  obtain ⟨g, hgq⟩ : ∃ g, w2.heap.size = g := ⟨_, rfl⟩
  rw [hgq] at S3 hg ⊢
  clear k2 b3 kk c7 b7 k7 hgq k0 b2
  have HT := Lib.hid (r16getF_any KW _ B W3 (HV.out.keeps S3.out.kw) HLb.out.1 HLb.out.2 HKW.out)
  rcases hgW : getW B KW with n' | ⟨T, k4⟩
  · rw [hgW] at HR1 HT
    unfold GtRefF at HT
    dsimp only at HR1
    refine HT.out.mono ?_
    rintro e w4 ⟨k4, hn0, r, N, rfl, rr⟩
    obtain ⟨ra, rm, rc, rfl, -, -⟩ := rr.form
    have S4 := S3.out.call k4
    have c1 : w4.cell? ⟨g, 1, none⟩ = some nilV := S4.b7.cell 1
    have f1 := S4.b7.frozen 1
    have kb : Keeps w4 (w4.setCell ⟨g, 1, none⟩ (.slice ra rm rc)) [g] := (Keeps.refl _ _).setCell (.inr (by simp)) _
    have B2 := S4.b2.keeps kb (by simp; omega)
    have hnb : (n' != 0) = true := by simpa using hn0
    have HN0 := Lib.hid hn0
    have KW4 := Lib.hid (S4.kw.trans kb (fun j hj hlt => by simp at hj; omega))
    clear S4 k4 rr hgW hn0 kb
    go_wp2_with (refine wpList_store_blk rfl 32 _ _ rfl w.heap.size zeroC rfl rfl _ _ B2 dict_size rfl (by simp [Value.oneCell']) ?_; intro W9 b9 k9)
    rw [← HR1.out]
    exact bodyPost_ret (v := .tuple #[.agg zeroC, .int .i64 n']) (res_cell_tmp rfl rfl rfl (load_dict b9 rfl)) rfl ⟨KW4.out.trans k9 (fun j hj hlt => by simp at hj; omega), HN0.out, rfl⟩
  rw [hgW] at HR1 HT
  unfold GtRefF at HT
  dsimp only at HR1
  have HK4 := Lib.hid (getW_le HKW.out hgW)
  refine HT.out.mono ?_
  rintro e w4 ⟨kk4, r, rfl, rr, fr⟩
  obtain ⟨ra, rm, rc, rfl, -, -⟩ := rr.form
  have S4 := S3.out.call kk4
  have c1 : w4.cell? ⟨g, 1, none⟩ = some nilV := S4.b7.cell 1
  have f1 := S4.b7.frozen 1
  have kb : Keeps w4 (w4.setCell ⟨g, 1, none⟩ (.slice ra rm rc)) [g] := (Keeps.refl _ _).setCell (.inr (by simp)) _
  have S5 := Lib.hid (S4.set (d' := ⟨X, .slice ra rm rc, nilV, nilV, nilV, nilV, T, [], [], [], [], 0, 0, 0, 0, 0, 0⟩) kb (by simpa using S4.b7.set 1 (.slice ra rm rc)) ⟨rr, fr.mono (by have := S3.out.size; omega)⟩ ⟨.nil, .nil⟩ ⟨.nil, .nil⟩ ⟨.nil, .nil⟩ rfl)
  clear S4 kk4 rr fr hgW kb HT
  unfold getD2 at HR1
  go_wp2_with fail
  generalize hW6 : ((((w4.setCell ⟨g, 1, none⟩ (.slice ra rm rc)).alloc (.cells #[.pointer (some ⟨g, 4, none⟩), .pointer (some ⟨g, 6, none⟩), .pointer (some ⟨g, 2, none⟩)] 77)).alloc (.cells #[.int .i64 28, .int .i64 44, .int .i64 44] 3)).alloc (.cells #[.int .i64 8, .int .i64 9, .int .i64 9] 3)) = W6 at *
  have L6 : Hid (RL w W6 g w4.heap.size ⟨X, .slice ra rm rc, nilV, nilV, nilV, nilV, T, [], [], [], [], 0, 0, 0, 0, 0, 0⟩) := Lib.hid (by
    have hs5 := S5.out.size
    simp only [World.size_setCell] at hs5
    have p8 := ((Blk.new (w4.setCell ⟨g, 1, none⟩ (.slice ra rm rc)) #[.pointer (some ⟨g, 4, none⟩), .pointer (some ⟨g, 6, none⟩), .pointer (some ⟨g, 2, none⟩)] 77).alloc (.cells #[.int .i64 28, .int .i64 44, .int .i64 44] 3)).alloc (.cells #[.int .i64 8, .int .i64 9, .int .i64 9] 3)
    have p9 := (Blk.new ((w4.setCell ⟨g, 1, none⟩ (.slice ra rm rc)).alloc (.cells #[.pointer (some ⟨g, 4, none⟩), .pointer (some ⟨g, 6, none⟩), .pointer (some ⟨g, 2, none⟩)] 77)) #[.int .i64 28, .int .i64 44, .int .i64 44] 3).alloc (.cells #[.int .i64 8, .int .i64 9, .int .i64 9] 3)
    have p10 := Blk.new (((w4.setCell ⟨g, 1, none⟩ (.slice ra rm rc)).alloc (.cells #[.pointer (some ⟨g, 4, none⟩), .pointer (some ⟨g, 6, none⟩), .pointer (some ⟨g, 2, none⟩)] 77)).alloc (.cells #[.int .i64 28, .int .i64 44, .int .i64 44] 3)) #[.int .i64 8, .int .i64 9, .int .i64 9] 3
    simp only [World.size_alloc, World.size_setCell] at p8 p9 p10
    have s6 := S5.out.call ((((Keeps.refl _ []).alloc (.cells #[.pointer (some ⟨g, 4, none⟩), .pointer (some ⟨g, 6, none⟩), .pointer (some ⟨g, 2, none⟩)] 77)).alloc (.cells #[.int .i64 28, .int .i64 44, .int .i64 44] 3)).alloc (.cells #[.int .i64 8, .int .i64 9, .int .i64 9] 3))
    rw [hW6] at p8 p9 p10 s6
    exact ⟨s6, p8, p9, p10, hs5⟩)
  have HR2 : Hid (getT B 3 k4 (dOf ⟨X, .slice ra rm rc, nilV, nilV, nilV, nilV, T, [], [], [], [], 0, 0, 0, 0, 0, 0⟩) = R) := Lib.hid ((getT_all _ _ _).symm.trans HR1.out)
  obtain ⟨h8, hh8⟩ : ∃ h, w4.heap.size = h := ⟨_, rfl⟩
  rw [hh8] at L6 ⊢
  clear hW6 hh8 S5 HR1 c1 f1
  go_loopw [5, 11] (fun s5 s11 wr => ∃ (j kj : Nat) (d : DV), j ≤ 3 ∧ s5 = .int .i64 (kj : Int) ∧ s11 = .int .i64 (j : Int) ∧ Hid (RL w wr g h8 d) ∧ Hid (kj ≤ B.length) ∧ Hid (getT B (3 - j) kj (dOf d) = R)) (fun _ s11 _ => 3 - (intOf s11).toNat)
  case atStart => exact ⟨0, k4, _, by omega, rfl, rfl, L6, HK4, HR2⟩
  case round =>
    obtain ⟨j, kj, d, hj, rfl, rfl, hRL, hkj, hrest⟩ := hrel
    clear L6 HR2 HK4
    have h3 : j = 0 ∨ j = 1 ∨ j = 2 ∨ j = 3 := by omega
    rcases h3 with rfl | rfl | rfl | rfl
    · obtain ⟨Gv, Lp, kv, er, hZ⟩ : ∃ Gv Lp kv er, tabR (descP ((B.drop kj).take 1024) 28 8) kj = (Gv, Lp, kv, er) := ⟨_, _, _, _, rfl⟩
      go_wp2_with fail
      have HTG := Lib.hid (fun W (S : RL w W g h8 d) => tget_any kj 28 8 _ B W (HV.out.keeps S.rs.kw) HLb.out.1 HLb.out.2 hkj.out (by decide) hZ)
      refine wp_region_held_drew (S := (fun w' => RL w w' g h8 d)) (by kernel_rfl) (hRL.out.call ((Keeps.refl _ _).drew)) (fun hHeld => ?_)
      refine takeL (i := 0) (v := ?_) rfl (by kernel_rfl) (by kernel_rfl) (by kernel_rfl) (fun _ _ _ h => h) (by rfl) ?_ (by assumption) ?_
      rotate_left
      · (intro w9 hSw; have y8 := hSw.p8; have y9 := hSw.p9; have y10 := hSw.p10; have z80 := y8.cell 0; have z81 := y8.cell 1; have z82 := y8.cell 2; have z90 := y9.cell 0; have z91 := y9.cell 1; have z92 := y9.cell 2; have z100 := y10.cell 0; have z101 := y10.cell 1; have z102 := y10.cell 2; simp at z80 z81 z82 z90 z91 z92 z100 z101 z102; clear hSw y8 y9 y10; go_simp; (try with_reducible rfl))
      try simp only [Act.put, List.setIfInBounds_toArray, List.set_cons_zero, List.set_cons_succ]
      refine takeL (i := 1) (v := ?_) rfl (by kernel_rfl) (by kernel_rfl) (by kernel_rfl) (fun _ _ _ h => h) (by rfl) ?_ (by assumption) ?_
      rotate_left
      · (intro w9 hSw; have y8 := hSw.p8; have y9 := hSw.p9; have y10 := hSw.p10; have z80 := y8.cell 0; have z81 := y8.cell 1; have z82 := y8.cell 2; have z90 := y9.cell 0; have z91 := y9.cell 1; have z92 := y9.cell 2; have z100 := y10.cell 0; have z101 := y10.cell 1; have z102 := y10.cell 2; simp at z80 z81 z82 z90 z91 z92 z100 z101 z102; clear hSw y8 y9 y10; go_simp; (try with_reducible rfl))
      try simp only [Act.put, List.setIfInBounds_toArray, List.set_cons_zero, List.set_cons_succ]
      refine takeL (i := 2) (v := ?_) rfl (by kernel_rfl) (by kernel_rfl) (by kernel_rfl) (fun _ _ _ h => h) (by rfl) ?_ (by assumption) ?_
      rotate_left
      · (intro w9 hSw; have y8 := hSw.p8; have y9 := hSw.p9; have y10 := hSw.p10; have z80 := y8.cell 0; have z81 := y8.cell 1; have z82 := y8.cell 2; have z90 := y9.cell 0; have z91 := y9.cell 1; have z92 := y9.cell 2; have z100 := y10.cell 0; have z101 := y10.cell 1; have z102 := y10.cell 2; simp at z80 z81 z82 z90 z91 z92 z100 z101 z102; clear hSw y8 y9 y10; go_simp; (try with_reducible rfl))
      try simp only [Act.put, List.setIfInBounds_toArray, List.set_cons_zero, List.set_cons_succ]
      refine takeL (i := 3) (v := ?_) rfl (by kernel_rfl) (by kernel_rfl) (by kernel_rfl) (fun _ _ _ h => h) (by rfl) ?_ (by assumption) ?_
      rotate_left
      · (intro w9 hSw; have y8 := hSw.p8; have y9 := hSw.p9; have y10 := hSw.p10; have z80 := y8.cell 0; have z81 := y8.cell 1; have z82 := y8.cell 2; have z90 := y9.cell 0; have z91 := y9.cell 1; have z92 := y9.cell 2; have z100 := y10.cell 0; have z101 := y10.cell 1; have z102 := y10.cell 2; simp at z80 z81 z82 z90 z91 z92 z100 z101 z102; clear hSw y8 y9 y10; go_simp; (try with_reducible rfl))
      try simp only [Act.put, List.setIfInBounds_toArray, List.set_cons_zero, List.set_cons_succ]
      refine takeL (i := 4) (v := ?_) rfl (by kernel_rfl) (by kernel_rfl) (by kernel_rfl) (fun _ _ _ h => h) (by rfl) ?_ (by assumption) ?_
      rotate_left
      · (intro w9 hSw; have y8 := hSw.p8; have y9 := hSw.p9; have y10 := hSw.p10; have z80 := y8.cell 0; have z81 := y8.cell 1; have z82 := y8.cell 2; have z90 := y9.cell 0; have z91 := y9.cell 1; have z92 := y9.cell 2; have z100 := y10.cell 0; have z101 := y10.cell 1; have z102 := y10.cell 2; simp at z80 z81 z82 z90 z91 z92 z100 z101 z102; clear hSw y8 y9 y10; go_simp; (try with_reducible rfl))
      try simp only [Act.put, List.setIfInBounds_toArray, List.set_cons_zero, List.set_cons_succ]
      refine takeL (i := 5) (v := ?_) rfl (by kernel_rfl) (by kernel_rfl) (by kernel_rfl) (fun _ _ _ h => h) (by rfl) ?_ (by assumption) ?_
      rotate_left
      · (intro w9 hSw; have y8 := hSw.p8; have y9 := hSw.p9; have y10 := hSw.p10; have z80 := y8.cell 0; have z81 := y8.cell 1; have z82 := y8.cell 2; have z90 := y9.cell 0; have z91 := y9.cell 1; have z92 := y9.cell 2; have z100 := y10.cell 0; have z101 := y10.cell 1; have z102 := y10.cell 2; simp at z80 z81 z82 z90 z91 z92 z100 z101 z102; clear hSw y8 y9 y10; go_simp; (try with_reducible rfl))
      try simp only [Act.put, List.setIfInBounds_toArray, List.set_cons_zero, List.set_cons_succ]
      refine takeL (i := 6) (v := ?_) rfl (by kernel_rfl) (by kernel_rfl) (by kernel_rfl) (fun _ _ _ h => h) (by rfl) ?_ (by assumption) ?_
      rotate_left
      · (intro w9 hSw; have y8 := hSw.p8; have y9 := hSw.p9; have y10 := hSw.p10; have z80 := y8.cell 0; have z81 := y8.cell 1; have z82 := y8.cell 2; have z90 := y9.cell 0; have z91 := y9.cell 1; have z92 := y9.cell 2; have z100 := y10.cell 0; have z101 := y10.cell 1; have z102 := y10.cell 2; simp at z80 z81 z82 z90 z91 z92 z100 z101 z102; clear hSw y8 y9 y10; go_simp; (try with_reducible rfl))
      try simp only [Act.put, List.setIfInBounds_toArray, List.set_cons_zero, List.set_cons_succ]
      refine takeL (i := 7) (v := ?_) rfl (by kernel_rfl) (by kernel_rfl) (by kernel_rfl) (fun _ _ _ h => h) (by rfl) ?_ (by assumption) ?_
      rotate_left
      · (intro w9 hSw; have y8 := hSw.p8; have y9 := hSw.p9; have y10 := hSw.p10; have z80 := y8.cell 0; have z81 := y8.cell 1; have z82 := y8.cell 2; have z90 := y9.cell 0; have z91 := y9.cell 1; have z92 := y9.cell 2; have z100 := y10.cell 0; have z101 := y10.cell 1; have z102 := y10.cell 2; simp at z80 z81 z82 z90 z91 z92 z100 z101 z102; clear hSw y8 y9 y10; go_simp; (try with_reducible rfl))
      try simp only [Act.put, List.setIfInBounds_toArray, List.set_cons_zero, List.set_cons_succ]
      refine takeL (i := 8) (v := ?_) rfl (by kernel_rfl) (by kernel_rfl) (by kernel_rfl) (fun _ _ _ h => h) (by rfl) ?_ (by assumption) ?_
      rotate_left
      · (intro w9 hSw; have y8 := hSw.p8; have y9 := hSw.p9; have y10 := hSw.p10; have z80 := y8.cell 0; have z81 := y8.cell 1; have z82 := y8.cell 2; have z90 := y9.cell 0; have z91 := y9.cell 1; have z92 := y9.cell 2; have z100 := y10.cell 0; have z101 := y10.cell 1; have z102 := y10.cell 2; simp at z80 z81 z82 z90 z91 z92 z100 z101 z102; clear hSw y8 y9 y10; go_simp; (try with_reducible rfl))
      try simp only [Act.put, List.setIfInBounds_toArray, List.set_cons_zero, List.set_cons_succ]
      refine takeL (i := 9) (v := ?_) rfl (by kernel_rfl) (by kernel_rfl) (by kernel_rfl) (fun _ _ _ h => h) (by rfl) ?_ (by assumption) ?_
      rotate_left
      · (intro w9 hSw; have y8 := hSw.p8; have y9 := hSw.p9; have y10 := hSw.p10; have z80 := y8.cell 0; have z81 := y8.cell 1; have z82 := y8.cell 2; have z90 := y9.cell 0; have z91 := y9.cell 1; have z92 := y9.cell 2; have z100 := y10.cell 0; have z101 := y10.cell 1; have z102 := y10.cell 2; simp at z80 z81 z82 z90 z91 z92 z100 z101 z102; clear hSw y8 y9 y10; go_simp; (try with_reducible rfl))
      try simp only [Act.put, List.setIfInBounds_toArray, List.set_cons_zero, List.set_cons_succ]
      refine call2L (i := 10) (j := 15) rfl rfl (by kernel_rfl) (fun Kont hK => ?_) (fun Kont hK => ?_)
      · go_simp
        go_at_call 52
        refine (HTG.out _ hHeld).mono ?_
        rintro e w7 ⟨a7, n7, c7, rfl, rd7, fr7, hne, kk7⟩
        go_wp2_with fail
        refine hK.out _ _ ?_ (fun hHeld2 => ?_)
        · exact hHeld.call kk7
        clear hK Kont
        refine takeL (i := 11) (v := ?_) rfl (by kernel_rfl) (by kernel_rfl) (by kernel_rfl) (fun _ _ _ h => h) (by rfl) ?_ (by assumption) ?_
        rotate_left
        · (intro w9 hSw; clear hSw; go_simp; (try with_reducible rfl))
        try simp only [Act.put, List.setIfInBounds_toArray, List.set_cons_zero, List.set_cons_succ]
        refine takeL (i := 12) (v := ?_) rfl (by kernel_rfl) (by kernel_rfl) (by kernel_rfl) (fun _ _ _ h => h) (by rfl) ?_ (by assumption) ?_
        rotate_left
        · (intro w9 hSw; clear hSw; go_simp; (try with_reducible rfl))
        try simp only [Act.put, List.setIfInBounds_toArray, List.set_cons_zero, List.set_cons_succ]
        refine takeL (i := 13) (v := ?_) rfl (by kernel_rfl) (by kernel_rfl) (by kernel_rfl) (fun _ _ _ h => h) (by rfl) ?_ (by assumption) ?_
        rotate_left
        · (intro w9 hSw; clear hSw; go_simp; (try with_reducible rfl))
        try simp only [Act.put, List.setIfInBounds_toArray, List.set_cons_zero, List.set_cons_succ]
        refine takeL (i := 14) (v := ?_) rfl (by kernel_rfl) (by kernel_rfl) (by kernel_rfl) (fun _ _ _ h => h) (by rfl) ?_ (by assumption) ?_
        rotate_left
        · (intro w9 hSw; clear hSw; go_simp; (try with_reducible rfl))
        try simp only [Act.put, List.setIfInBounds_toArray, List.set_cons_zero, List.set_cons_succ]
        refine callL (i := 15) rfl (by kernel_rfl) (fun Kont hK => ?_)
        go_simp
        refine hK.out _ _ ?_ (fun hHeld3 => ?_)
        · exact hHeld2.call ((Keeps.refl _ []).alloc _)
        clear hK Kont
        refine callL (i := 16) rfl (by kernel_rfl) (fun Kont hK => ?_)
        refine step_store_blk rfl 27 _ _ rfl w7.heap.size #[.int .i64 Gv, .slice a7 n7 c7] rfl rfl _ _ (Blk.new w7 #[.int .i64 0, nilV] 27) tbl_size rfl (by simp [Value.oneCell']) ?_
        intro W9 b9 k9
        have kA : Keeps w7 W9 [] := ((Keeps.refl w7 []).alloc _).trans k9 (fun j hj hlt => by simp at hj; omega)
        refine hK.out _ _ ?_ (fun hHeld4 => ?_)
        · exact hHeld2.call kA
        clear hK Kont
        have rd9 := rd7.keeps kA
        have fr9 : Fresh (g + 1) (.slice a7 n7 c7) := fr7.mono (by have := hHeld.rs.size; omega)
        obtain ⟨q, hq⟩ : ∃ q, w7.heap.size = q := ⟨_, rfl⟩
        have hqg : q ≠ g := by have := hHeld2.rs.size; omega
        rw [hq] at b9 ⊢
        refine takeL (i := 17) (v := ?_) rfl (by kernel_rfl) (by kernel_rfl) (by kernel_rfl) (fun _ _ _ h => h) (by rfl) ?_ (by assumption) ?_
        rotate_left
        · (intro w9 hSw; clear hSw; go_simp; (try with_reducible rfl))
        try simp only [Act.put, List.setIfInBounds_toArray, List.set_cons_zero, List.set_cons_succ]
        refine takeL (i := 18) (v := ?_) rfl (by kernel_rfl) (by kernel_rfl) (by kernel_rfl) (fun _ _ _ h => h) (by rfl) ?_ (by assumption) ?_
        rotate_left
        · (intro w9 hSw; clear hSw; go_simp; (try with_reducible rfl))
        try simp only [Act.put, List.setIfInBounds_toArray, List.set_cons_zero, List.set_cons_succ]
        refine wpAnyH_done (by kernel_rfl) ?_ _
        have hKj := hkj.out
        rcases hd : descP ((B.drop kj).take 1024) 28 8 with n' | ⟨G, L, m⟩
        · rw [hd] at hZ
          simp only [tabR, Prod.mk.injEq] at hZ
          obtain ⟨rfl, rfl, rfl, rfl⟩ := hZ
          have hn0 := hne _ hd
          have HN0 := Lib.hid hn0
          have HRe : Hid (R = .error n') := Lib.hid (by
            have h1 : getT B 3 kj (dOf d) = R := hrest.out
            rw [← h1]; simp only [getT, hd])
          have hnb : (n' != 0) = true := by simpa using hn0
          have B2 := hHeld4.rs.b2
          have KW9 := Lib.hid hHeld4.rs.kw
          clear hd hne hn0 hHeld hHeld2 hHeld3 hHeld4 rd7 fr7 kk7 k9 kA rd9 fr9 b9
          go_wp2_with (refine wpList_store_blk rfl 32 _ _ rfl w.heap.size zeroC rfl rfl _ _ B2 dict_size rfl (by simp [Value.oneCell']) ?_; intro Wf bf kf)
          rw [HRe.out]
          exact bodyPost_ret (v := .tuple #[.agg zeroC, .int .i64 n']) (res_cell_tmp rfl rfl rfl (load_dict bf rfl)) rfl ⟨KW9.out.trans kf (fun j hj hlt => by simp at hj; omega), HN0.out, rfl⟩
        rw [hd] at hZ
        simp only [tabR, Prod.mk.injEq] at hZ
        obtain ⟨rfl, rfl, rfl, rfl⟩ := hZ
        have HRn : Hid (getT B (3 - 1) (kj + m) (dOf { d with g2 := (G : Int), n2 := .slice a7 n7 c7, L2 := L }) = R) := Lib.hid (by
          have h1 : getT B 3 kj (dOf d) = R := hrest.out
          exact (getT_ok3 hd).symm.trans h1)
        have HKn := Lib.hid (descP_at hkj.out hd)
        have X5 := hHeld4.call ((Keeps.refl W9 []).drew)
        clear hd hne hHeld hHeld2 hHeld3 rd7 fr7 kk7 k9 kA
        have X4 := Lib.hid hHeld4
        clear hHeld4
        go_wp2_with fail
        refine wp_region_held_drew (S := (fun w' => Blk w' h8 #[.pointer (some ⟨g, 4, none⟩), .pointer (some ⟨g, 6, none⟩), .pointer (some ⟨g, 2, none⟩)] 77 ∧ Blk w' q #[.int .i64 (G : Int), .slice a7 n7 c7] 27)) (by kernel_rfl) ⟨X5.p8, b9.drew⟩ (fun hHeld5 => ?_)
        refine takeL (i := 0) (v := ?_) rfl (by kernel_rfl) (by kernel_rfl) (by kernel_rfl) (fun _ _ _ h => h) (by rfl) ?_ (by assumption) ?_
        rotate_left
        · (intro w9 hSw; have y8 := hSw.1; have yq := hSw.2; have z80 := y8.cell 0; have z81 := y8.cell 1; have z82 := y8.cell 2; have zq0 := yq.cell 0; have zq1 := yq.cell 1; simp at z80 z81 z82 zq0 zq1; clear hSw y8 yq; go_simp; (try with_reducible rfl))
        try simp only [Act.put, List.setIfInBounds_toArray, List.set_cons_zero, List.set_cons_succ]
        refine takeL (i := 1) (v := ?_) rfl (by kernel_rfl) (by kernel_rfl) (by kernel_rfl) (fun _ _ _ h => h) (by rfl) ?_ (by assumption) ?_
        rotate_left
        · (intro w9 hSw; have y8 := hSw.1; have yq := hSw.2; have z80 := y8.cell 0; have z81 := y8.cell 1; have z82 := y8.cell 2; have zq0 := yq.cell 0; have zq1 := yq.cell 1; simp at z80 z81 z82 zq0 zq1; clear hSw y8 yq; go_simp; (try with_reducible rfl))
        try simp only [Act.put, List.setIfInBounds_toArray, List.set_cons_zero, List.set_cons_succ]
        refine takeL (i := 2) (v := ?_) rfl (by kernel_rfl) (by kernel_rfl) (by kernel_rfl) (fun _ _ _ h => h) (by rfl) ?_ (by assumption) ?_
        rotate_left
        · (intro w9 hSw; have y8 := hSw.1; have yq := hSw.2; have z80 := y8.cell 0; have z81 := y8.cell 1; have z82 := y8.cell 2; have zq0 := yq.cell 0; have zq1 := yq.cell 1; simp at z80 z81 z82 zq0 zq1; clear hSw y8 yq; go_simp; (try with_reducible rfl))
        try simp only [Act.put, List.setIfInBounds_toArray, List.set_cons_zero, List.set_cons_succ]
        refine takeL (i := 3) (v := ?_) rfl (by kernel_rfl) (by kernel_rfl) (by kernel_rfl) (fun _ _ _ h => h) (by rfl) ?_ (by assumption) ?_
        rotate_left
        · (intro w9 hSw; have y8 := hSw.1; have yq := hSw.2; have z80 := y8.cell 0; have z81 := y8.cell 1; have z82 := y8.cell 2; have zq0 := yq.cell 0; have zq1 := yq.cell 1; simp at z80 z81 z82 zq0 zq1; clear hSw y8 yq; go_simp; (try with_reducible rfl))
        try simp only [Act.put, List.setIfInBounds_toArray, List.set_cons_zero, List.set_cons_succ]
        refine takeL (i := 4) (v := ?_) rfl (by kernel_rfl) (by kernel_rfl) (by kernel_rfl) (fun _ _ _ h => h) (by rfl) ?_ (by assumption) ?_
        rotate_left
        · (intro w9 hSw; have y8 := hSw.1; have yq := hSw.2; have z80 := y8.cell 0; have z81 := y8.cell 1; have z82 := y8.cell 2; have zq0 := yq.cell 0; have zq1 := yq.cell 1; simp at z80 z81 z82 zq0 zq1; clear hSw y8 yq; go_simp; (try with_reducible rfl))
        try simp only [Act.put, List.setIfInBounds_toArray, List.set_cons_zero, List.set_cons_succ]
        refine takeL (i := 5) (v := ?_) rfl (by kernel_rfl) (by kernel_rfl) (by kernel_rfl) (fun _ _ _ h => h) (by rfl) ?_ (by assumption) ?_
        rotate_left
        · (intro w9 hSw; have y8 := hSw.1; have yq := hSw.2; have z80 := y8.cell 0; have z81 := y8.cell 1; have z82 := y8.cell 2; have zq0 := yq.cell 0; have zq1 := yq.cell 1; simp at z80 z81 z82 zq0 zq1; clear hSw y8 yq; go_simp; (try with_reducible rfl))
        try simp only [Act.put, List.setIfInBounds_toArray, List.set_cons_zero, List.set_cons_succ]
        refine takeL (i := 6) (v := ?_) rfl (by kernel_rfl) (by kernel_rfl) (by kernel_rfl) (fun _ _ _ h => h) (by rfl) ?_ (by assumption) ?_
        rotate_left
        · (intro w9 hSw; have y8 := hSw.1; have yq := hSw.2; have z80 := y8.cell 0; have z81 := y8.cell 1; have z82 := y8.cell 2; have zq0 := yq.cell 0; have zq1 := yq.cell 1; simp at z80 z81 z82 zq0 zq1; clear hSw y8 yq; go_simp; (try with_reducible rfl))
        try simp only [Act.put, List.setIfInBounds_toArray, List.set_cons_zero, List.set_cons_succ]
        refine callL (i := 7) rfl (by kernel_rfl) (fun Kont hK => ?_)
        refine step_store_two rfl 27 _ _ rfl g 4 (.int .i64 (G : Int)) (.slice a7 n7 c7) rfl rfl _ _ X5.rs.b7 (by simp) tbl_size ⟨rfl, rfl⟩ ?_
        intro W10 b10 k10
        refine hK.out _ _ ?_ (fun hHeld6 => ?_)
        · exact ⟨hHeld5.1.keeps k10 (by have := X5.lt; simp; omega), hHeld5.2.keeps k10 (by simp; exact hqg)⟩
        clear hK Kont
        have XN := Lib.hid (X5.set (d' := { d with g2 := (G : Int), n2 := .slice a7 n7 c7, L2 := L }) k10 (X5.rs.set (d' := { d with g2 := (G : Int), n2 := .slice a7 n7 c7, L2 := L }) k10 (by simpa using b10) ⟨X5.rs.rt, X5.rs.ft⟩ ⟨X5.rs.r1, X5.rs.f1⟩ ⟨rd9.keeps (Keeps.refl _ _).drew, fr9⟩ ⟨X5.rs.r3, X5.rs.f3⟩ rfl))
        clear b10 k10 X5 hHeld5
        refine takeL (i := 8) (v := ?_) rfl (by kernel_rfl) (by kernel_rfl) (by kernel_rfl) (fun _ _ _ h => h) (by rfl) ?_ (by assumption) ?_
        rotate_left
        · (intro w9 hSw; clear hSw; go_simp; (try with_reducible rfl))
        try simp only [Act.put, List.setIfInBounds_toArray, List.set_cons_zero, List.set_cons_succ]
        refine wpAnyH_done (by kernel_rfl) ?_ _
        go_wp2_with fail
        go_roundw
        case rel => exact ⟨1, kj + m, _, by omega, rfl, by first | rfl | go_num, XN, HKn, HRn⟩
        case measure => simp [intOf]
      · go_simp
        refine hK.out _ _ ?_ (fun hHeld2 => ?_)
        · exact hHeld.call ((Keeps.refl _ []).alloc _)
        clear hK Kont
        refine callL (i := 10) rfl (by kernel_rfl) (fun Kont hK => ?_)
        go_simp
        go_at_call 52
        refine (HTG.out _ hHeld2).mono ?_
        rintro e w7 ⟨a7, n7, c7, rfl, rd7, fr7, hne, kk7⟩
        go_wp2_with fail
        refine hK.out _ _ ?_ (fun hHeld3 => ?_)
        · exact hHeld2.call kk7
        clear hK Kont
        refine takeL (i := 11) (v := ?_) rfl (by kernel_rfl) (by kernel_rfl) (by kernel_rfl) (fun _ _ _ h => h) (by rfl) ?_ (by assumption) ?_
        rotate_left
        · (intro w9 hSw; clear hSw; go_simp; (try with_reducible rfl))
        try simp only [Act.put, List.setIfInBounds_toArray, List.set_cons_zero, List.set_cons_succ]
        refine takeL (i := 12) (v := ?_) rfl (by kernel_rfl) (by kernel_rfl) (by kernel_rfl) (fun _ _ _ h => h) (by rfl) ?_ (by assumption) ?_
        rotate_left
        · (intro w9 hSw; clear hSw; go_simp; (try with_reducible rfl))
        try simp only [Act.put, List.setIfInBounds_toArray, List.set_cons_zero, List.set_cons_succ]
        refine takeL (i := 13) (v := ?_) rfl (by kernel_rfl) (by kernel_rfl) (by kernel_rfl) (fun _ _ _ h => h) (by rfl) ?_ (by assumption) ?_
        rotate_left
        · (intro w9 hSw; clear hSw; go_simp; (try with_reducible rfl))
        try simp only [Act.put, List.setIfInBounds_toArray, List.set_cons_zero, List.set_cons_succ]
        refine takeL (i := 14) (v := ?_) rfl (by kernel_rfl) (by kernel_rfl) (by kernel_rfl) (fun _ _ _ h => h) (by rfl) ?_ (by assumption) ?_
        rotate_left
        · (intro w9 hSw; clear hSw; go_simp; (try with_reducible rfl))
        try simp only [Act.put, List.setIfInBounds_toArray, List.set_cons_zero, List.set_cons_succ]
        refine callL (i := 16) rfl (by kernel_rfl) (fun Kont hK => ?_)
        refine step_store_blk rfl 27 _ _ rfl wr.heap.size #[.int .i64 Gv, .slice a7 n7 c7] rfl rfl _ _ ((Blk.new wr #[.int .i64 0, nilV] 27).drew.keeps kk7 (by simp)) tbl_size rfl (by simp [Value.oneCell']) ?_
        intro W9 b9 k9
        have kA : Keeps wr W9 [] := (((Keeps.refl wr []).alloc (.cells #[.int .i64 0, nilV] 27)).drew.then kk7).trans k9 (fun j hj hlt => by simp at hj; omega)
        refine hK.out _ _ ?_ (fun hHeld4 => ?_)
        · exact hRL.out.call kA
        clear hK Kont
        have rd9 := rd7.past fr7 k9 (by simp)
        have fr9 : Fresh (g + 1) (.slice a7 n7 c7) := fr7.mono (by have := hHeld2.rs.size; omega)
        obtain ⟨q, hq⟩ : ∃ q, wr.heap.size = q := ⟨_, rfl⟩
        have hqg : q ≠ g := by have := hRL.out.rs.size; omega
        rw [hq] at b9 ⊢
        refine takeL (i := 17) (v := ?_) rfl (by kernel_rfl) (by kernel_rfl) (by kernel_rfl) (fun _ _ _ h => h) (by rfl) ?_ (by assumption) ?_
        rotate_left
        · (intro w9 hSw; clear hSw; go_simp; (try with_reducible rfl))
        try simp only [Act.put, List.setIfInBounds_toArray, List.set_cons_zero, List.set_cons_succ]
        refine takeL (i := 18) (v := ?_) rfl (by kernel_rfl) (by kernel_rfl) (by kernel_rfl) (fun _ _ _ h => h) (by rfl) ?_ (by assumption) ?_
        rotate_left
        · (intro w9 hSw; clear hSw; go_simp; (try with_reducible rfl))
        try simp only [Act.put, List.setIfInBounds_toArray, List.set_cons_zero, List.set_cons_succ]
        refine wpAnyH_done (by kernel_rfl) ?_ _
        have hKj := hkj.out
        rcases hd : descP ((B.drop kj).take 1024) 28 8 with n' | ⟨G, L, m⟩
        · rw [hd] at hZ
          simp only [tabR, Prod.mk.injEq] at hZ
          obtain ⟨rfl, rfl, rfl, rfl⟩ := hZ
          have hn0 := hne _ hd
          have HN0 := Lib.hid hn0
          have HRe : Hid (R = .error n') := Lib.hid (by
            have h1 : getT B 3 kj (dOf d) = R := hrest.out
            rw [← h1]; simp only [getT, hd])
          have hnb : (n' != 0) = true := by simpa using hn0
          have B2 := hHeld4.rs.b2
          have KW9 := Lib.hid hHeld4.rs.kw
          clear hd hne hn0 hHeld hHeld2 hHeld3 hHeld4 rd7 fr7 kk7 k9 kA rd9 fr9 b9
          go_wp2_with (refine wpList_store_blk rfl 32 _ _ rfl w.heap.size zeroC rfl rfl _ _ B2 dict_size rfl (by simp [Value.oneCell']) ?_; intro Wf bf kf)
          rw [HRe.out]
          exact bodyPost_ret (v := .tuple #[.agg zeroC, .int .i64 n']) (res_cell_tmp rfl rfl rfl (load_dict bf rfl)) rfl ⟨KW9.out.trans kf (fun j hj hlt => by simp at hj; omega), HN0.out, rfl⟩
        rw [hd] at hZ
        simp only [tabR, Prod.mk.injEq] at hZ
        obtain ⟨rfl, rfl, rfl, rfl⟩ := hZ
        have HRn : Hid (getT B (3 - 1) (kj + m) (dOf { d with g2 := (G : Int), n2 := .slice a7 n7 c7, L2 := L }) = R) := Lib.hid (by
          have h1 : getT B 3 kj (dOf d) = R := hrest.out
          exact (getT_ok3 hd).symm.trans h1)
        have HKn := Lib.hid (descP_at hkj.out hd)
        have X5 := hHeld4.call ((Keeps.refl W9 []).drew)
        clear hd hne hHeld hHeld2 hHeld3 rd7 fr7 kk7 k9 kA
        have X4 := Lib.hid hHeld4
        clear hHeld4
        go_wp2_with fail
        refine wp_region_held_drew (S := (fun w' => Blk w' h8 #[.pointer (some ⟨g, 4, none⟩), .pointer (some ⟨g, 6, none⟩), .pointer (some ⟨g, 2, none⟩)] 77 ∧ Blk w' q #[.int .i64 (G : Int), .slice a7 n7 c7] 27)) (by kernel_rfl) ⟨X5.p8, b9.drew⟩ (fun hHeld5 => ?_)
        refine takeL (i := 0) (v := ?_) rfl (by kernel_rfl) (by kernel_rfl) (by kernel_rfl) (fun _ _ _ h => h) (by rfl) ?_ (by assumption) ?_
        rotate_left
        · (intro w9 hSw; have y8 := hSw.1; have yq := hSw.2; have z80 := y8.cell 0; have z81 := y8.cell 1; have z82 := y8.cell 2; have zq0 := yq.cell 0; have zq1 := yq.cell 1; simp at z80 z81 z82 zq0 zq1; clear hSw y8 yq; go_simp; (try with_reducible rfl))
        try simp only [Act.put, List.setIfInBounds_toArray, List.set_cons_zero, List.set_cons_succ]
        refine takeL (i := 1) (v := ?_) rfl (by kernel_rfl) (by kernel_rfl) (by kernel_rfl) (fun _ _ _ h => h) (by rfl) ?_ (by assumption) ?_
        rotate_left
        · (intro w9 hSw; have y8 := hSw.1; have yq := hSw.2; have z80 := y8.cell 0; have z81 := y8.cell 1; have z82 := y8.cell 2; have zq0 := yq.cell 0; have zq1 := yq.cell 1; simp at z80 z81 z82 zq0 zq1; clear hSw y8 yq; go_simp; (try with_reducible rfl))
        try simp only [Act.put, List.setIfInBounds_toArray, List.set_cons_zero, List.set_cons_succ]
        refine takeL (i := 2) (v := ?_) rfl (by kernel_rfl) (by kernel_rfl) (by kernel_rfl) (fun _ _ _ h => h) (by rfl) ?_ (by assumption) ?_
        rotate_left
        · (intro w9 hSw; have y8 := hSw.1; have yq := hSw.2; have z80 := y8.cell 0; have z81 := y8.cell 1; have z82 := y8.cell 2; have zq0 := yq.cell 0; have zq1 := yq.cell 1; simp at z80 z81 z82 zq0 zq1; clear hSw y8 yq; go_simp; (try with_reducible rfl))
        try simp only [Act.put, List.setIfInBounds_toArray, List.set_cons_zero, List.set_cons_succ]
        refine takeL (i := 3) (v := ?_) rfl (by kernel_rfl) (by kernel_rfl) (by kernel_rfl) (fun _ _ _ h => h) (by rfl) ?_ (by assumption) ?_
        rotate_left
        · (intro w9 hSw; have y8 := hSw.1; have yq := hSw.2; have z80 := y8.cell 0; have z81 := y8.cell 1; have z82 := y8.cell 2; have zq0 := yq.cell 0; have zq1 := yq.cell 1; simp at z80 z81 z82 zq0 zq1; clear hSw y8 yq; go_simp; (try with_reducible rfl))
        try simp only [Act.put, List.setIfInBounds_toArray, List.set_cons_zero, List.set_cons_succ]
        refine takeL (i := 4) (v := ?_) rfl (by kernel_rfl) (by kernel_rfl) (by kernel_rfl) (fun _ _ _ h => h) (by rfl) ?_ (by assumption) ?_
        rotate_left
        · (intro w9 hSw; have y8 := hSw.1; have yq := hSw.2; have z80 := y8.cell 0; have z81 := y8.cell 1; have z82 := y8.cell 2; have zq0 := yq.cell 0; have zq1 := yq.cell 1; simp at z80 z81 z82 zq0 zq1; clear hSw y8 yq; go_simp; (try with_reducible rfl))
        try simp only [Act.put, List.setIfInBounds_toArray, List.set_cons_zero, List.set_cons_succ]
        refine takeL (i := 5) (v := ?_) rfl (by kernel_rfl) (by kernel_rfl) (by kernel_rfl) (fun _ _ _ h => h) (by rfl) ?_ (by assumption) ?_
        rotate_left
        · (intro w9 hSw; have y8 := hSw.1; have yq := hSw.2; have z80 := y8.cell 0; have z81 := y8.cell 1; have z82 := y8.cell 2; have zq0 := yq.cell 0; have zq1 := yq.cell 1; simp at z80 z81 z82 zq0 zq1; clear hSw y8 yq; go_simp; (try with_reducible rfl))
        try simp only [Act.put, List.setIfInBounds_toArray, List.set_cons_zero, List.set_cons_succ]
        refine takeL (i := 6) (v := ?_) rfl (by kernel_rfl) (by kernel_rfl) (by kernel_rfl) (fun _ _ _ h => h) (by rfl) ?_ (by assumption) ?_
        rotate_left
        · (intro w9 hSw; have y8 := hSw.1; have yq := hSw.2; have z80 := y8.cell 0; have z81 := y8.cell 1; have z82 := y8.cell 2; have zq0 := yq.cell 0; have zq1 := yq.cell 1; simp at z80 z81 z82 zq0 zq1; clear hSw y8 yq; go_simp; (try with_reducible rfl))
        try simp only [Act.put, List.setIfInBounds_toArray, List.set_cons_zero, List.set_cons_succ]
        refine callL (i := 7) rfl (by kernel_rfl) (fun Kont hK => ?_)
        refine step_store_two rfl 27 _ _ rfl g 4 (.int .i64 (G : Int)) (.slice a7 n7 c7) rfl rfl _ _ X5.rs.b7 (by simp) tbl_size ⟨rfl, rfl⟩ ?_
        intro W10 b10 k10
        refine hK.out _ _ ?_ (fun hHeld6 => ?_)
        · exact ⟨hHeld5.1.keeps k10 (by have := X5.lt; simp; omega), hHeld5.2.keeps k10 (by simp; exact hqg)⟩
        clear hK Kont
        have XN := Lib.hid (X5.set (d' := { d with g2 := (G : Int), n2 := .slice a7 n7 c7, L2 := L }) k10 (X5.rs.set (d' := { d with g2 := (G : Int), n2 := .slice a7 n7 c7, L2 := L }) k10 (by simpa using b10) ⟨X5.rs.rt, X5.rs.ft⟩ ⟨X5.rs.r1, X5.rs.f1⟩ ⟨rd9.keeps (Keeps.refl _ _).drew, fr9⟩ ⟨X5.rs.r3, X5.rs.f3⟩ rfl))
        clear b10 k10 X5 hHeld5
        refine takeL (i := 8) (v := ?_) rfl (by kernel_rfl) (by kernel_rfl) (by kernel_rfl) (fun _ _ _ h => h) (by rfl) ?_ (by assumption) ?_
        rotate_left
        · (intro w9 hSw; clear hSw; go_simp; (try with_reducible rfl))
        try simp only [Act.put, List.setIfInBounds_toArray, List.set_cons_zero, List.set_cons_succ]
        refine wpAnyH_done (by kernel_rfl) ?_ _
        go_wp2_with fail
        go_roundw
        case rel => exact ⟨1, kj + m, _, by omega, rfl, by first | rfl | go_num, XN, HKn, HRn⟩
        case measure => simp [intOf]
    · obtain ⟨Gv, Lp, kv, er, hZ⟩ : ∃ Gv Lp kv er, tabR (descP ((B.drop kj).take 1024) 44 9) kj = (Gv, Lp, kv, er) := ⟨_, _, _, _, rfl⟩
      go_wp2_with fail
      have HTG := Lib.hid (fun W (S : RL w W g h8 d) => tget_any kj 44 9 _ B W (HV.out.keeps S.rs.kw) HLb.out.1 HLb.out.2 hkj.out (by decide) hZ)
      refine wp_region_held_drew (S := (fun w' => RL w w' g h8 d)) (by kernel_rfl) (hRL.out.call ((Keeps.refl _ _).drew)) (fun hHeld => ?_)
      refine takeL (i := 0) (v := ?_) rfl (by kernel_rfl) (by kernel_rfl) (by kernel_rfl) (fun _ _ _ h => h) (by rfl) ?_ (by assumption) ?_
      rotate_left
      · (intro w9 hSw; have y8 := hSw.p8; have y9 := hSw.p9; have y10 := hSw.p10; have z80 := y8.cell 0; have z81 := y8.cell 1; have z82 := y8.cell 2; have z90 := y9.cell 0; have z91 := y9.cell 1; have z92 := y9.cell 2; have z100 := y10.cell 0; have z101 := y10.cell 1; have z102 := y10.cell 2; simp at z80 z81 z82 z90 z91 z92 z100 z101 z102; clear hSw y8 y9 y10; go_simp; (try with_reducible rfl))
      try simp only [Act.put, List.setIfInBounds_toArray, List.set_cons_zero, List.set_cons_succ]
      refine takeL (i := 1) (v := ?_) rfl (by kernel_rfl) (by kernel_rfl) (by kernel_rfl) (fun _ _ _ h => h) (by rfl) ?_ (by assumption) ?_
      rotate_left
      · (intro w9 hSw; have y8 := hSw.p8; have y9 := hSw.p9; have y10 := hSw.p10; have z80 := y8.cell 0; have z81 := y8.cell 1; have z82 := y8.cell 2; have z90 := y9.cell 0; have z91 := y9.cell 1; have z92 := y9.cell 2; have z100 := y10.cell 0; have z101 := y10.cell 1; have z102 := y10.cell 2; simp at z80 z81 z82 z90 z91 z92 z100 z101 z102; clear hSw y8 y9 y10; go_simp; (try with_reducible rfl))
      try simp only [Act.put, List.setIfInBounds_toArray, List.set_cons_zero, List.set_cons_succ]
      refine takeL (i := 2) (v := ?_) rfl (by kernel_rfl) (by kernel_rfl) (by kernel_rfl) (fun _ _ _ h => h) (by rfl) ?_ (by assumption) ?_
      rotate_left
      · (intro w9 hSw; have y8 := hSw.p8; have y9 := hSw.p9; have y10 := hSw.p10; have z80 := y8.cell 0; have z81 := y8.cell 1; have z82 := y8.cell 2; have z90 := y9.cell 0; have z91 := y9.cell 1; have z92 := y9.cell 2; have z100 := y10.cell 0; have z101 := y10.cell 1; have z102 := y10.cell 2; simp at z80 z81 z82 z90 z91 z92 z100 z101 z102; clear hSw y8 y9 y10; go_simp; (try with_reducible rfl))
      try simp only [Act.put, List.setIfInBounds_toArray, List.set_cons_zero, List.set_cons_succ]
      refine takeL (i := 3) (v := ?_) rfl (by kernel_rfl) (by kernel_rfl) (by kernel_rfl) (fun _ _ _ h => h) (by rfl) ?_ (by assumption) ?_
      rotate_left
      · (intro w9 hSw; have y8 := hSw.p8; have y9 := hSw.p9; have y10 := hSw.p10; have z80 := y8.cell 0; have z81 := y8.cell 1; have z82 := y8.cell 2; have z90 := y9.cell 0; have z91 := y9.cell 1; have z92 := y9.cell 2; have z100 := y10.cell 0; have z101 := y10.cell 1; have z102 := y10.cell 2; simp at z80 z81 z82 z90 z91 z92 z100 z101 z102; clear hSw y8 y9 y10; go_simp; (try with_reducible rfl))
      try simp only [Act.put, List.setIfInBounds_toArray, List.set_cons_zero, List.set_cons_succ]
      refine takeL (i := 4) (v := ?_) rfl (by kernel_rfl) (by kernel_rfl) (by kernel_rfl) (fun _ _ _ h => h) (by rfl) ?_ (by assumption) ?_
      rotate_left
      · (intro w9 hSw; have y8 := hSw.p8; have y9 := hSw.p9; have y10 := hSw.p10; have z80 := y8.cell 0; have z81 := y8.cell 1; have z82 := y8.cell 2; have z90 := y9.cell 0; have z91 := y9.cell 1; have z92 := y9.cell 2; have z100 := y10.cell 0; have z101 := y10.cell 1; have z102 := y10.cell 2; simp at z80 z81 z82 z90 z91 z92 z100 z101 z102; clear hSw y8 y9 y10; go_simp; (try with_reducible rfl))
      try simp only [Act.put, List.setIfInBounds_toArray, List.set_cons_zero, List.set_cons_succ]
      refine takeL (i := 5) (v := ?_) rfl (by kernel_rfl) (by kernel_rfl) (by kernel_rfl) (fun _ _ _ h => h) (by rfl) ?_ (by assumption) ?_
      rotate_left
      · (intro w9 hSw; have y8 := hSw.p8; have y9 := hSw.p9; have y10 := hSw.p10; have z80 := y8.cell 0; have z81 := y8.cell 1; have z82 := y8.cell 2; have z90 := y9.cell 0; have z91 := y9.cell 1; have z92 := y9.cell 2; have z100 := y10.cell 0; have z101 := y10.cell 1; have z102 := y10.cell 2; simp at z80 z81 z82 z90 z91 z92 z100 z101 z102; clear hSw y8 y9 y10; go_simp; (try with_reducible rfl))
      try simp only [Act.put, List.setIfInBounds_toArray, List.set_cons_zero, List.set_cons_succ]
      refine takeL (i := 6) (v := ?_) rfl (by kernel_rfl) (by kernel_rfl) (by kernel_rfl) (fun _ _ _ h => h) (by rfl) ?_ (by assumption) ?_
      rotate_left
      · (intro w9 hSw; have y8 := hSw.p8; have y9 := hSw.p9; have y10 := hSw.p10; have z80 := y8.cell 0; have z81 := y8.cell 1; have z82 := y8.cell 2; have z90 := y9.cell 0; have z91 := y9.cell 1; have z92 := y9.cell 2; have z100 := y10.cell 0; have z101 := y10.cell 1; have z102 := y10.cell 2; simp at z80 z81 z82 z90 z91 z92 z100 z101 z102; clear hSw y8 y9 y10; go_simp; (try with_reducible rfl))
      try simp only [Act.put, List.setIfInBounds_toArray, List.set_cons_zero, List.set_cons_succ]
      refine takeL (i := 7) (v := ?_) rfl (by kernel_rfl) (by kernel_rfl) (by kernel_rfl) (fun _ _ _ h => h) (by rfl) ?_ (by assumption) ?_
      rotate_left
      · (intro w9 hSw; have y8 := hSw.p8; have y9 := hSw.p9; have y10 := hSw.p10; have z80 := y8.cell 0; have z81 := y8.cell 1; have z82 := y8.cell 2; have z90 := y9.cell 0; have z91 := y9.cell 1; have z92 := y9.cell 2; have z100 := y10.cell 0; have z101 := y10.cell 1; have z102 := y10.cell 2; simp at z80 z81 z82 z90 z91 z92 z100 z101 z102; clear hSw y8 y9 y10; go_simp; (try with_reducible rfl))
      try simp only [Act.put, List.setIfInBounds_toArray, List.set_cons_zero, List.set_cons_succ]
      refine takeL (i := 8) (v := ?_) rfl (by kernel_rfl) (by kernel_rfl) (by kernel_rfl) (fun _ _ _ h => h) (by rfl) ?_ (by assumption) ?_
      rotate_left
      · (intro w9 hSw; have y8 := hSw.p8; have y9 := hSw.p9; have y10 := hSw.p10; have z80 := y8.cell 0; have z81 := y8.cell 1; have z82 := y8.cell 2; have z90 := y9.cell 0; have z91 := y9.cell 1; have z92 := y9.cell 2; have z100 := y10.cell 0; have z101 := y10.cell 1; have z102 := y10.cell 2; simp at z80 z81 z82 z90 z91 z92 z100 z101 z102; clear hSw y8 y9 y10; go_simp; (try with_reducible rfl))
      try simp only [Act.put, List.setIfInBounds_toArray, List.set_cons_zero, List.set_cons_succ]
      refine takeL (i := 9) (v := ?_) rfl (by kernel_rfl) (by kernel_rfl) (by kernel_rfl) (fun _ _ _ h => h) (by rfl) ?_ (by assumption) ?_
      rotate_left
      · (intro w9 hSw; have y8 := hSw.p8; have y9 := hSw.p9; have y10 := hSw.p10; have z80 := y8.cell 0; have z81 := y8.cell 1; have z82 := y8.cell 2; have z90 := y9.cell 0; have z91 := y9.cell 1; have z92 := y9.cell 2; have z100 := y10.cell 0; have z101 := y10.cell 1; have z102 := y10.cell 2; simp at z80 z81 z82 z90 z91 z92 z100 z101 z102; clear hSw y8 y9 y10; go_simp; (try with_reducible rfl))
      try simp only [Act.put, List.setIfInBounds_toArray, List.set_cons_zero, List.set_cons_succ]
      refine call2L (i := 10) (j := 15) rfl rfl (by kernel_rfl) (fun Kont hK => ?_) (fun Kont hK => ?_)
      · go_simp
        go_at_call 52
        refine (HTG.out _ hHeld).mono ?_
        rintro e w7 ⟨a7, n7, c7, rfl, rd7, fr7, hne, kk7⟩
        go_wp2_with fail
        refine hK.out _ _ ?_ (fun hHeld2 => ?_)
        · exact hHeld.call kk7
        clear hK Kont
        refine takeL (i := 11) (v := ?_) rfl (by kernel_rfl) (by kernel_rfl) (by kernel_rfl) (fun _ _ _ h => h) (by rfl) ?_ (by assumption) ?_
        rotate_left
        · (intro w9 hSw; clear hSw; go_simp; (try with_reducible rfl))
        try simp only [Act.put, List.setIfInBounds_toArray, List.set_cons_zero, List.set_cons_succ]
        refine takeL (i := 12) (v := ?_) rfl (by kernel_rfl) (by kernel_rfl) (by kernel_rfl) (fun _ _ _ h => h) (by rfl) ?_ (by assumption) ?_
        rotate_left
        · (intro w9 hSw; clear hSw; go_simp; (try with_reducible rfl))
        try simp only [Act.put, List.setIfInBounds_toArray, List.set_cons_zero, List.set_cons_succ]
        refine takeL (i := 13) (v := ?_) rfl (by kernel_rfl) (by kernel_rfl) (by kernel_rfl) (fun _ _ _ h => h) (by rfl) ?_ (by assumption) ?_
        rotate_left
        · (intro w9 hSw; clear hSw; go_simp; (try with_reducible rfl))
        try simp only [Act.put, List.setIfInBounds_toArray, List.set_cons_zero, List.set_cons_succ]
        refine takeL (i := 14) (v := ?_) rfl (by kernel_rfl) (by kernel_rfl) (by kernel_rfl) (fun _ _ _ h => h) (by rfl) ?_ (by assumption) ?_
        rotate_left
        · (intro w9 hSw; clear hSw; go_simp; (try with_reducible rfl))
        try simp only [Act.put, List.setIfInBounds_toArray, List.set_cons_zero, List.set_cons_succ]
        refine callL (i := 15) rfl (by kernel_rfl) (fun Kont hK => ?_)
        go_simp
        refine hK.out _ _ ?_ (fun hHeld3 => ?_)
        · exact hHeld2.call ((Keeps.refl _ []).alloc _)
        clear hK Kont
        refine callL (i := 16) rfl (by kernel_rfl) (fun Kont hK => ?_)
        refine step_store_blk rfl 27 _ _ rfl w7.heap.size #[.int .i64 Gv, .slice a7 n7 c7] rfl rfl _ _ (Blk.new w7 #[.int .i64 0, nilV] 27) tbl_size rfl (by simp [Value.oneCell']) ?_
        intro W9 b9 k9
        have kA : Keeps w7 W9 [] := ((Keeps.refl w7 []).alloc _).trans k9 (fun j hj hlt => by simp at hj; omega)
        refine hK.out _ _ ?_ (fun hHeld4 => ?_)
        · exact hHeld2.call kA
        clear hK Kont
        have rd9 := rd7.keeps kA
        have fr9 : Fresh (g + 1) (.slice a7 n7 c7) := fr7.mono (by have := hHeld.rs.size; omega)
        obtain ⟨q, hq⟩ : ∃ q, w7.heap.size = q := ⟨_, rfl⟩
        have hqg : q ≠ g := by have := hHeld2.rs.size; omega
        rw [hq] at b9 ⊢
        refine takeL (i := 17) (v := ?_) rfl (by kernel_rfl) (by kernel_rfl) (by kernel_rfl) (fun _ _ _ h => h) (by rfl) ?_ (by assumption) ?_
        rotate_left
        · (intro w9 hSw; clear hSw; go_simp; (try with_reducible rfl))
        try simp only [Act.put, List.setIfInBounds_toArray, List.set_cons_zero, List.set_cons_succ]
        refine takeL (i := 18) (v := ?_) rfl (by kernel_rfl) (by kernel_rfl) (by kernel_rfl) (fun _ _ _ h => h) (by rfl) ?_ (by assumption) ?_
        rotate_left
        · (intro w9 hSw; clear hSw; go_simp; (try with_reducible rfl))
        try simp only [Act.put, List.setIfInBounds_toArray, List.set_cons_zero, List.set_cons_succ]
        refine wpAnyH_done (by kernel_rfl) ?_ _
        have hKj := hkj.out
        rcases hd : descP ((B.drop kj).take 1024) 44 9 with n' | ⟨G, L, m⟩
        · rw [hd] at hZ
          simp only [tabR, Prod.mk.injEq] at hZ
          obtain ⟨rfl, rfl, rfl, rfl⟩ := hZ
          have hn0 := hne _ hd
          have HN0 := Lib.hid hn0
          have HRe : Hid (R = .error n') := Lib.hid (by
            have h1 : getT B 2 kj (dOf d) = R := hrest.out
            rw [← h1]; simp only [getT, hd])
          have hnb : (n' != 0) = true := by simpa using hn0
          have B2 := hHeld4.rs.b2
          have KW9 := Lib.hid hHeld4.rs.kw
          clear hd hne hn0 hHeld hHeld2 hHeld3 hHeld4 rd7 fr7 kk7 k9 kA rd9 fr9 b9
          go_wp2_with (refine wpList_store_blk rfl 32 _ _ rfl w.heap.size zeroC rfl rfl _ _ B2 dict_size rfl (by simp [Value.oneCell']) ?_; intro Wf bf kf)
          rw [HRe.out]
          exact bodyPost_ret (v := .tuple #[.agg zeroC, .int .i64 n']) (res_cell_tmp rfl rfl rfl (load_dict bf rfl)) rfl ⟨KW9.out.trans kf (fun j hj hlt => by simp at hj; omega), HN0.out, rfl⟩
        rw [hd] at hZ
        simp only [tabR, Prod.mk.injEq] at hZ
        obtain ⟨rfl, rfl, rfl, rfl⟩ := hZ
        have HRn : Hid (getT B (3 - 2) (kj + m) (dOf { d with g3 := (G : Int), n3 := .slice a7 n7 c7, L3 := L }) = R) := Lib.hid (by
          have h1 : getT B 2 kj (dOf d) = R := hrest.out
          exact (getT_ok2 hd).symm.trans h1)
        have HKn := Lib.hid (descP_at hkj.out hd)
        have X5 := hHeld4.call ((Keeps.refl W9 []).drew)
        clear hd hne hHeld hHeld2 hHeld3 rd7 fr7 kk7 k9 kA
        have X4 := Lib.hid hHeld4
        clear hHeld4
        go_wp2_with fail
        refine wp_region_held_drew (S := (fun w' => Blk w' h8 #[.pointer (some ⟨g, 4, none⟩), .pointer (some ⟨g, 6, none⟩), .pointer (some ⟨g, 2, none⟩)] 77 ∧ Blk w' q #[.int .i64 (G : Int), .slice a7 n7 c7] 27)) (by kernel_rfl) ⟨X5.p8, b9.drew⟩ (fun hHeld5 => ?_)
        refine takeL (i := 0) (v := ?_) rfl (by kernel_rfl) (by kernel_rfl) (by kernel_rfl) (fun _ _ _ h => h) (by rfl) ?_ (by assumption) ?_
        rotate_left
        · (intro w9 hSw; have y8 := hSw.1; have yq := hSw.2; have z80 := y8.cell 0; have z81 := y8.cell 1; have z82 := y8.cell 2; have zq0 := yq.cell 0; have zq1 := yq.cell 1; simp at z80 z81 z82 zq0 zq1; clear hSw y8 yq; go_simp; (try with_reducible rfl))
        try simp only [Act.put, List.setIfInBounds_toArray, List.set_cons_zero, List.set_cons_succ]
        refine takeL (i := 1) (v := ?_) rfl (by kernel_rfl) (by kernel_rfl) (by kernel_rfl) (fun _ _ _ h => h) (by rfl) ?_ (by assumption) ?_
        rotate_left
        · (intro w9 hSw; have y8 := hSw.1; have yq := hSw.2; have z80 := y8.cell 0; have z81 := y8.cell 1; have z82 := y8.cell 2; have zq0 := yq.cell 0; have zq1 := yq.cell 1; simp at z80 z81 z82 zq0 zq1; clear hSw y8 yq; go_simp; (try with_reducible rfl))
        try simp only [Act.put, List.setIfInBounds_toArray, List.set_cons_zero, List.set_cons_succ]
        refine takeL (i := 2) (v := ?_) rfl (by kernel_rfl) (by kernel_rfl) (by kernel_rfl) (fun _ _ _ h => h) (by rfl) ?_ (by assumption) ?_
        rotate_left
        · (intro w9 hSw; have y8 := hSw.1; have yq := hSw.2; have z80 := y8.cell 0; have z81 := y8.cell 1; have z82 := y8.cell 2; have zq0 := yq.cell 0; have zq1 := yq.cell 1; simp at z80 z81 z82 zq0 zq1; clear hSw y8 yq; go_simp; (try with_reducible rfl))
        try simp only [Act.put, List.setIfInBounds_toArray, List.set_cons_zero, List.set_cons_succ]
        refine takeL (i := 3) (v := ?_) rfl (by kernel_rfl) (by kernel_rfl) (by kernel_rfl) (fun _ _ _ h => h) (by rfl) ?_ (by assumption) ?_
        rotate_left
        · (intro w9 hSw; have y8 := hSw.1; have yq := hSw.2; have z80 := y8.cell 0; have z81 := y8.cell 1; have z82 := y8.cell 2; have zq0 := yq.cell 0; have zq1 := yq.cell 1; simp at z80 z81 z82 zq0 zq1; clear hSw y8 yq; go_simp; (try with_reducible rfl))
        try simp only [Act.put, List.setIfInBounds_toArray, List.set_cons_zero, List.set_cons_succ]
        refine takeL (i := 4) (v := ?_) rfl (by kernel_rfl) (by kernel_rfl) (by kernel_rfl) (fun _ _ _ h => h) (by rfl) ?_ (by assumption) ?_
        rotate_left
        · (intro w9 hSw; have y8 := hSw.1; have yq := hSw.2; have z80 := y8.cell 0; have z81 := y8.cell 1; have z82 := y8.cell 2; have zq0 := yq.cell 0; have zq1 := yq.cell 1; simp at z80 z81 z82 zq0 zq1; clear hSw y8 yq; go_simp; (try with_reducible rfl))
        try simp only [Act.put, List.setIfInBounds_toArray, List.set_cons_zero, List.set_cons_succ]
        refine takeL (i := 5) (v := ?_) rfl (by kernel_rfl) (by kernel_rfl) (by kernel_rfl) (fun _ _ _ h => h) (by rfl) ?_ (by assumption) ?_
        rotate_left
        · (intro w9 hSw; have y8 := hSw.1; have yq := hSw.2; have z80 := y8.cell 0; have z81 := y8.cell 1; have z82 := y8.cell 2; have zq0 := yq.cell 0; have zq1 := yq.cell 1; simp at z80 z81 z82 zq0 zq1; clear hSw y8 yq; go_simp; (try with_reducible rfl))
        try simp only [Act.put, List.setIfInBounds_toArray, List.set_cons_zero, List.set_cons_succ]
        refine takeL (i := 6) (v := ?_) rfl (by kernel_rfl) (by kernel_rfl) (by kernel_rfl) (fun _ _ _ h => h) (by rfl) ?_ (by assumption) ?_
        rotate_left
        · (intro w9 hSw; have y8 := hSw.1; have yq := hSw.2; have z80 := y8.cell 0; have z81 := y8.cell 1; have z82 := y8.cell 2; have zq0 := yq.cell 0; have zq1 := yq.cell 1; simp at z80 z81 z82 zq0 zq1; clear hSw y8 yq; go_simp; (try with_reducible rfl))
        try simp only [Act.put, List.setIfInBounds_toArray, List.set_cons_zero, List.set_cons_succ]
        refine callL (i := 7) rfl (by kernel_rfl) (fun Kont hK => ?_)
        refine step_store_two rfl 27 _ _ rfl g 6 (.int .i64 (G : Int)) (.slice a7 n7 c7) rfl rfl _ _ X5.rs.b7 (by simp) tbl_size ⟨rfl, rfl⟩ ?_
        intro W10 b10 k10
        refine hK.out _ _ ?_ (fun hHeld6 => ?_)
        · exact ⟨hHeld5.1.keeps k10 (by have := X5.lt; simp; omega), hHeld5.2.keeps k10 (by simp; exact hqg)⟩
        clear hK Kont
        have XN := Lib.hid (X5.set (d' := { d with g3 := (G : Int), n3 := .slice a7 n7 c7, L3 := L }) k10 (X5.rs.set (d' := { d with g3 := (G : Int), n3 := .slice a7 n7 c7, L3 := L }) k10 (by simpa using b10) ⟨X5.rs.rt, X5.rs.ft⟩ ⟨X5.rs.r1, X5.rs.f1⟩ ⟨X5.rs.r2, X5.rs.f2⟩ ⟨rd9.keeps (Keeps.refl _ _).drew, fr9⟩ rfl))
        clear b10 k10 X5 hHeld5
        refine takeL (i := 8) (v := ?_) rfl (by kernel_rfl) (by kernel_rfl) (by kernel_rfl) (fun _ _ _ h => h) (by rfl) ?_ (by assumption) ?_
        rotate_left
        · (intro w9 hSw; clear hSw; go_simp; (try with_reducible rfl))
        try simp only [Act.put, List.setIfInBounds_toArray, List.set_cons_zero, List.set_cons_succ]
        refine wpAnyH_done (by kernel_rfl) ?_ _
        go_wp2_with fail
        go_roundw
        case rel => exact ⟨2, kj + m, _, by omega, rfl, by first | rfl | go_num, XN, HKn, HRn⟩
        case measure => simp [intOf]
      · go_simp
        refine hK.out _ _ ?_ (fun hHeld2 => ?_)
        · exact hHeld.call ((Keeps.refl _ []).alloc _)
        clear hK Kont
        refine callL (i := 10) rfl (by kernel_rfl) (fun Kont hK => ?_)
        go_simp
        go_at_call 52
        refine (HTG.out _ hHeld2).mono ?_
        rintro e w7 ⟨a7, n7, c7, rfl, rd7, fr7, hne, kk7⟩
        go_wp2_with fail
        refine hK.out _ _ ?_ (fun hHeld3 => ?_)
        · exact hHeld2.call kk7
        clear hK Kont
        refine takeL (i := 11) (v := ?_) rfl (by kernel_rfl) (by kernel_rfl) (by kernel_rfl) (fun _ _ _ h => h) (by rfl) ?_ (by assumption) ?_
        rotate_left
        · (intro w9 hSw; clear hSw; go_simp; (try with_reducible rfl))
        try simp only [Act.put, List.setIfInBounds_toArray, List.set_cons_zero, List.set_cons_succ]
        refine takeL (i := 12) (v := ?_) rfl (by kernel_rfl) (by kernel_rfl) (by kernel_rfl) (fun _ _ _ h => h) (by rfl) ?_ (by assumption) ?_
        rotate_left
        · (intro w9 hSw; clear hSw; go_simp; (try with_reducible rfl))
        try simp only [Act.put, List.setIfInBounds_toArray, List.set_cons_zero, List.set_cons_succ]
        refine takeL (i := 13) (v := ?_) rfl (by kernel_rfl) (by kernel_rfl) (by kernel_rfl) (fun _ _ _ h => h) (by rfl) ?_ (by assumption) ?_
        rotate_left
        · (intro w9 hSw; clear hSw; go_simp; (try with_reducible rfl))
        try simp only [Act.put, List.setIfInBounds_toArray, List.set_cons_zero, List.set_cons_succ]
        refine takeL (i := 14) (v := ?_) rfl (by kernel_rfl) (by kernel_rfl) (by kernel_rfl) (fun _ _ _ h => h) (by rfl) ?_ (by assumption) ?_
        rotate_left
        · (intro w9 hSw; clear hSw; go_simp; (try with_reducible rfl))
        try simp only [Act.put, List.setIfInBounds_toArray, List.set_cons_zero, List.set_cons_succ]
        refine callL (i := 16) rfl (by kernel_rfl) (fun Kont hK => ?_)
        refine step_store_blk rfl 27 _ _ rfl wr.heap.size #[.int .i64 Gv, .slice a7 n7 c7] rfl rfl _ _ ((Blk.new wr #[.int .i64 0, nilV] 27).drew.keeps kk7 (by simp)) tbl_size rfl (by simp [Value.oneCell']) ?_
        intro W9 b9 k9
        have kA : Keeps wr W9 [] := (((Keeps.refl wr []).alloc (.cells #[.int .i64 0, nilV] 27)).drew.then kk7).trans k9 (fun j hj hlt => by simp at hj; omega)
        refine hK.out _ _ ?_ (fun hHeld4 => ?_)
        · exact hRL.out.call kA
        clear hK Kont
        have rd9 := rd7.past fr7 k9 (by simp)
        have fr9 : Fresh (g + 1) (.slice a7 n7 c7) := fr7.mono (by have := hHeld2.rs.size; omega)
        obtain ⟨q, hq⟩ : ∃ q, wr.heap.size = q := ⟨_, rfl⟩
        have hqg : q ≠ g := by have := hRL.out.rs.size; omega
        rw [hq] at b9 ⊢
        refine takeL (i := 17) (v := ?_) rfl (by kernel_rfl) (by kernel_rfl) (by kernel_rfl) (fun _ _ _ h => h) (by rfl) ?_ (by assumption) ?_
        rotate_left
        · (intro w9 hSw; clear hSw; go_simp; (try with_reducible rfl))
        try simp only [Act.put, List.setIfInBounds_toArray, List.set_cons_zero, List.set_cons_succ]
        refine takeL (i := 18) (v := ?_) rfl (by kernel_rfl) (by kernel_rfl) (by kernel_rfl) (fun _ _ _ h => h) (by rfl) ?_ (by assumption) ?_
        rotate_left
        · (intro w9 hSw; clear hSw; go_simp; (try with_reducible rfl))
        try simp only [Act.put, List.setIfInBounds_toArray, List.set_cons_zero, List.set_cons_succ]
        refine wpAnyH_done (by kernel_rfl) ?_ _
        have hKj := hkj.out
        rcases hd : descP ((B.drop kj).take 1024) 44 9 with n' | ⟨G, L, m⟩
        · rw [hd] at hZ
          simp only [tabR, Prod.mk.injEq] at hZ
          obtain ⟨rfl, rfl, rfl, rfl⟩ := hZ
          have hn0 := hne _ hd
          have HN0 := Lib.hid hn0
          have HRe : Hid (R = .error n') := Lib.hid (by
            have h1 : getT B 2 kj (dOf d) = R := hrest.out
            rw [← h1]; simp only [getT, hd])
          have hnb : (n' != 0) = true := by simpa using hn0
          have B2 := hHeld4.rs.b2
          have KW9 := Lib.hid hHeld4.rs.kw
          clear hd hne hn0 hHeld hHeld2 hHeld3 hHeld4 rd7 fr7 kk7 k9 kA rd9 fr9 b9
          go_wp2_with (refine wpList_store_blk rfl 32 _ _ rfl w.heap.size zeroC rfl rfl _ _ B2 dict_size rfl (by simp [Value.oneCell']) ?_; intro Wf bf kf)
          rw [HRe.out]
          exact bodyPost_ret (v := .tuple #[.agg zeroC, .int .i64 n']) (res_cell_tmp rfl rfl rfl (load_dict bf rfl)) rfl ⟨KW9.out.trans kf (fun j hj hlt => by simp at hj; omega), HN0.out, rfl⟩
        rw [hd] at hZ
        simp only [tabR, Prod.mk.injEq] at hZ
        obtain ⟨rfl, rfl, rfl, rfl⟩ := hZ
        have HRn : Hid (getT B (3 - 2) (kj + m) (dOf { d with g3 := (G : Int), n3 := .slice a7 n7 c7, L3 := L }) = R) := Lib.hid (by
          have h1 : getT B 2 kj (dOf d) = R := hrest.out
          exact (getT_ok2 hd).symm.trans h1)
        have HKn := Lib.hid (descP_at hkj.out hd)
        have X5 := hHeld4.call ((Keeps.refl W9 []).drew)
        clear hd hne hHeld hHeld2 hHeld3 rd7 fr7 kk7 k9 kA
        have X4 := Lib.hid hHeld4
        clear hHeld4
        go_wp2_with fail
        refine wp_region_held_drew (S := (fun w' => Blk w' h8 #[.pointer (some ⟨g, 4, none⟩), .pointer (some ⟨g, 6, none⟩), .pointer (some ⟨g, 2, none⟩)] 77 ∧ Blk w' q #[.int .i64 (G : Int), .slice a7 n7 c7] 27)) (by kernel_rfl) ⟨X5.p8, b9.drew⟩ (fun hHeld5 => ?_)
        refine takeL (i := 0) (v := ?_) rfl (by kernel_rfl) (by kernel_rfl) (by kernel_rfl) (fun _ _ _ h => h) (by rfl) ?_ (by assumption) ?_
        rotate_left
        · (intro w9 hSw; have y8 := hSw.1; have yq := hSw.2; have z80 := y8.cell 0; have z81 := y8.cell 1; have z82 := y8.cell 2; have zq0 := yq.cell 0; have zq1 := yq.cell 1; simp at z80 z81 z82 zq0 zq1; clear hSw y8 yq; go_simp; (try with_reducible rfl))
        try simp only [Act.put, List.setIfInBounds_toArray, List.set_cons_zero, List.set_cons_succ]
        refine takeL (i := 1) (v := ?_) rfl (by kernel_rfl) (by kernel_rfl) (by kernel_rfl) (fun _ _ _ h => h) (by rfl) ?_ (by assumption) ?_
        rotate_left
        · (intro w9 hSw; have y8 := hSw.1; have yq := hSw.2; have z80 := y8.cell 0; have z81 := y8.cell 1; have z82 := y8.cell 2; have zq0 := yq.cell 0; have zq1 := yq.cell 1; simp at z80 z81 z82 zq0 zq1; clear hSw y8 yq; go_simp; (try with_reducible rfl))
        try simp only [Act.put, List.setIfInBounds_toArray, List.set_cons_zero, List.set_cons_succ]
        refine takeL (i := 2) (v := ?_) rfl (by kernel_rfl) (by kernel_rfl) (by kernel_rfl) (fun _ _ _ h => h) (by rfl) ?_ (by assumption) ?_
        rotate_left
        · (intro w9 hSw; have y8 := hSw.1; have yq := hSw.2; have z80 := y8.cell 0; have z81 := y8.cell 1; have z82 := y8.cell 2; have zq0 := yq.cell 0; have zq1 := yq.cell 1; simp at z80 z81 z82 zq0 zq1; clear hSw y8 yq; go_simp; (try with_reducible rfl))
        try simp only [Act.put, List.setIfInBounds_toArray, List.set_cons_zero, List.set_cons_succ]
        refine takeL (i := 3) (v := ?_) rfl (by kernel_rfl) (by kernel_rfl) (by kernel_rfl) (fun _ _ _ h => h) (by rfl) ?_ (by assumption) ?_
        rotate_left
        · (intro w9 hSw; have y8 := hSw.1; have yq := hSw.2; have z80 := y8.cell 0; have z81 := y8.cell 1; have z82 := y8.cell 2; have zq0 := yq.cell 0; have zq1 := yq.cell 1; simp at z80 z81 z82 zq0 zq1; clear hSw y8 yq; go_simp; (try with_reducible rfl))
        try simp only [Act.put, List.setIfInBounds_toArray, List.set_cons_zero, List.set_cons_succ]
        refine takeL (i := 4) (v := ?_) rfl (by kernel_rfl) (by kernel_rfl) (by kernel_rfl) (fun _ _ _ h => h) (by rfl) ?_ (by assumption) ?_
        rotate_left
        · (intro w9 hSw; have y8 := hSw.1; have yq := hSw.2; have z80 := y8.cell 0; have z81 := y8.cell 1; have z82 := y8.cell 2; have zq0 := yq.cell 0; have zq1 := yq.cell 1; simp at z80 z81 z82 zq0 zq1; clear hSw y8 yq; go_simp; (try with_reducible rfl))
        try simp only [Act.put, List.setIfInBounds_toArray, List.set_cons_zero, List.set_cons_succ]
        refine takeL (i := 5) (v := ?_) rfl (by kernel_rfl) (by kernel_rfl) (by kernel_rfl) (fun _ _ _ h => h) (by rfl) ?_ (by assumption) ?_
        rotate_left
        · (intro w9 hSw; have y8 := hSw.1; have yq := hSw.2; have z80 := y8.cell 0; have z81 := y8.cell 1; have z82 := y8.cell 2; have zq0 := yq.cell 0; have zq1 := yq.cell 1; simp at z80 z81 z82 zq0 zq1; clear hSw y8 yq; go_simp; (try with_reducible rfl))
        try simp only [Act.put, List.setIfInBounds_toArray, List.set_cons_zero, List.set_cons_succ]
        refine takeL (i := 6) (v := ?_) rfl (by kernel_rfl) (by kernel_rfl) (by kernel_rfl) (fun _ _ _ h => h) (by rfl) ?_ (by assumption) ?_
        rotate_left
        · (intro w9 hSw; have y8 := hSw.1; have yq := hSw.2; have z80 := y8.cell 0; have z81 := y8.cell 1; have z82 := y8.cell 2; have zq0 := yq.cell 0; have zq1 := yq.cell 1; simp at z80 z81 z82 zq0 zq1; clear hSw y8 yq; go_simp; (try with_reducible rfl))
        try simp only [Act.put, List.setIfInBounds_toArray, List.set_cons_zero, List.set_cons_succ]
        refine callL (i := 7) rfl (by kernel_rfl) (fun Kont hK => ?_)
        refine step_store_two rfl 27 _ _ rfl g 6 (.int .i64 (G : Int)) (.slice a7 n7 c7) rfl rfl _ _ X5.rs.b7 (by simp) tbl_size ⟨rfl, rfl⟩ ?_
        intro W10 b10 k10
        refine hK.out _ _ ?_ (fun hHeld6 => ?_)
        · exact ⟨hHeld5.1.keeps k10 (by have := X5.lt; simp; omega), hHeld5.2.keeps k10 (by simp; exact hqg)⟩
        clear hK Kont
        have XN := Lib.hid (X5.set (d' := { d with g3 := (G : Int), n3 := .slice a7 n7 c7, L3 := L }) k10 (X5.rs.set (d' := { d with g3 := (G : Int), n3 := .slice a7 n7 c7, L3 := L }) k10 (by simpa using b10) ⟨X5.rs.rt, X5.rs.ft⟩ ⟨X5.rs.r1, X5.rs.f1⟩ ⟨X5.rs.r2, X5.rs.f2⟩ ⟨rd9.keeps (Keeps.refl _ _).drew, fr9⟩ rfl))
        clear b10 k10 X5 hHeld5
        refine takeL (i := 8) (v := ?_) rfl (by kernel_rfl) (by kernel_rfl) (by kernel_rfl) (fun _ _ _ h => h) (by rfl) ?_ (by assumption) ?_
        rotate_left
        · (intro w9 hSw; clear hSw; go_simp; (try with_reducible rfl))
        try simp only [Act.put, List.setIfInBounds_toArray, List.set_cons_zero, List.set_cons_succ]
        refine wpAnyH_done (by kernel_rfl) ?_ _
        go_wp2_with fail
        go_roundw
        case rel => exact ⟨2, kj + m, _, by omega, rfl, by first | rfl | go_num, XN, HKn, HRn⟩
        case measure => simp [intOf]
    · obtain ⟨Gv, Lp, kv, er, hZ⟩ : ∃ Gv Lp kv er, tabR (descP ((B.drop kj).take 1024) 44 9) kj = (Gv, Lp, kv, er) := ⟨_, _, _, _, rfl⟩
      go_wp2_with fail
      have HTG := Lib.hid (fun W (S : RL w W g h8 d) => tget_any kj 44 9 _ B W (HV.out.keeps S.rs.kw) HLb.out.1 HLb.out.2 hkj.out (by decide) hZ)
      refine wp_region_held_drew (S := (fun w' => RL w w' g h8 d)) (by kernel_rfl) (hRL.out.call ((Keeps.refl _ _).drew)) (fun hHeld => ?_)
      refine takeL (i := 0) (v := ?_) rfl (by kernel_rfl) (by kernel_rfl) (by kernel_rfl) (fun _ _ _ h => h) (by rfl) ?_ (by assumption) ?_
      rotate_left
      · (intro w9 hSw; have y8 := hSw.p8; have y9 := hSw.p9; have y10 := hSw.p10; have z80 := y8.cell 0; have z81 := y8.cell 1; have z82 := y8.cell 2; have z90 := y9.cell 0; have z91 := y9.cell 1; have z92 := y9.cell 2; have z100 := y10.cell 0; have z101 := y10.cell 1; have z102 := y10.cell 2; simp at z80 z81 z82 z90 z91 z92 z100 z101 z102; clear hSw y8 y9 y10; go_simp; (try with_reducible rfl))
      try simp only [Act.put, List.setIfInBounds_toArray, List.set_cons_zero, List.set_cons_succ]
      refine takeL (i := 1) (v := ?_) rfl (by kernel_rfl) (by kernel_rfl) (by kernel_rfl) (fun _ _ _ h => h) (by rfl) ?_ (by assumption) ?_
      rotate_left
      · (intro w9 hSw; have y8 := hSw.p8; have y9 := hSw.p9; have y10 := hSw.p10; have z80 := y8.cell 0; have z81 := y8.cell 1; have z82 := y8.cell 2; have z90 := y9.cell 0; have z91 := y9.cell 1; have z92 := y9.cell 2; have z100 := y10.cell 0; have z101 := y10.cell 1; have z102 := y10.cell 2; simp at z80 z81 z82 z90 z91 z92 z100 z101 z102; clear hSw y8 y9 y10; go_simp; (try with_reducible rfl))
      try simp only [Act.put, List.setIfInBounds_toArray, List.set_cons_zero, List.set_cons_succ]
      refine takeL (i := 2) (v := ?_) rfl (by kernel_rfl) (by kernel_rfl) (by kernel_rfl) (fun _ _ _ h => h) (by rfl) ?_ (by assumption) ?_
      rotate_left
      · (intro w9 hSw; have y8 := hSw.p8; have y9 := hSw.p9; have y10 := hSw.p10; have z80 := y8.cell 0; have z81 := y8.cell 1; have z82 := y8.cell 2; have z90 := y9.cell 0; have z91 := y9.cell 1; have z92 := y9.cell 2; have z100 := y10.cell 0; have z101 := y10.cell 1; have z102 := y10.cell 2; simp at z80 z81 z82 z90 z91 z92 z100 z101 z102; clear hSw y8 y9 y10; go_simp; (try with_reducible rfl))
      try simp only [Act.put, List.setIfInBounds_toArray, List.set_cons_zero, List.set_cons_succ]
      refine takeL (i := 3) (v := ?_) rfl (by kernel_rfl) (by kernel_rfl) (by kernel_rfl) (fun _ _ _ h => h) (by rfl) ?_ (by assumption) ?_
      rotate_left
      · (intro w9 hSw; have y8 := hSw.p8; have y9 := hSw.p9; have y10 := hSw.p10; have z80 := y8.cell 0; have z81 := y8.cell 1; have z82 := y8.cell 2; have z90 := y9.cell 0; have z91 := y9.cell 1; have z92 := y9.cell 2; have z100 := y10.cell 0; have z101 := y10.cell 1; have z102 := y10.cell 2; simp at z80 z81 z82 z90 z91 z92 z100 z101 z102; clear hSw y8 y9 y10; go_simp; (try with_reducible rfl))
      try simp only [Act.put, List.setIfInBounds_toArray, List.set_cons_zero, List.set_cons_succ]
      refine takeL (i := 4) (v := ?_) rfl (by kernel_rfl) (by kernel_rfl) (by kernel_rfl) (fun _ _ _ h => h) (by rfl) ?_ (by assumption) ?_
      rotate_left
      · (intro w9 hSw; have y8 := hSw.p8; have y9 := hSw.p9; have y10 := hSw.p10; have z80 := y8.cell 0; have z81 := y8.cell 1; have z82 := y8.cell 2; have z90 := y9.cell 0; have z91 := y9.cell 1; have z92 := y9.cell 2; have z100 := y10.cell 0; have z101 := y10.cell 1; have z102 := y10.cell 2; simp at z80 z81 z82 z90 z91 z92 z100 z101 z102; clear hSw y8 y9 y10; go_simp; (try with_reducible rfl))
      try simp only [Act.put, List.setIfInBounds_toArray, List.set_cons_zero, List.set_cons_succ]
      refine takeL (i := 5) (v := ?_) rfl (by kernel_rfl) (by kernel_rfl) (by kernel_rfl) (fun _ _ _ h => h) (by rfl) ?_ (by assumption) ?_
      rotate_left
      · (intro w9 hSw; have y8 := hSw.p8; have y9 := hSw.p9; have y10 := hSw.p10; have z80 := y8.cell 0; have z81 := y8.cell 1; have z82 := y8.cell 2; have z90 := y9.cell 0; have z91 := y9.cell 1; have z92 := y9.cell 2; have z100 := y10.cell 0; have z101 := y10.cell 1; have z102 := y10.cell 2; simp at z80 z81 z82 z90 z91 z92 z100 z101 z102; clear hSw y8 y9 y10; go_simp; (try with_reducible rfl))
      try simp only [Act.put, List.setIfInBounds_toArray, List.set_cons_zero, List.set_cons_succ]
      refine takeL (i := 6) (v := ?_) rfl (by kernel_rfl) (by kernel_rfl) (by kernel_rfl) (fun _ _ _ h => h) (by rfl) ?_ (by assumption) ?_
      rotate_left
      · (intro w9 hSw; have y8 := hSw.p8; have y9 := hSw.p9; have y10 := hSw.p10; have z80 := y8.cell 0; have z81 := y8.cell 1; have z82 := y8.cell 2; have z90 := y9.cell 0; have z91 := y9.cell 1; have z92 := y9.cell 2; have z100 := y10.cell 0; have z101 := y10.cell 1; have z102 := y10.cell 2; simp at z80 z81 z82 z90 z91 z92 z100 z101 z102; clear hSw y8 y9 y10; go_simp; (try with_reducible rfl))
      try simp only [Act.put, List.setIfInBounds_toArray, List.set_cons_zero, List.set_cons_succ]
      refine takeL (i := 7) (v := ?_) rfl (by kernel_rfl) (by kernel_rfl) (by kernel_rfl) (fun _ _ _ h => h) (by rfl) ?_ (by assumption) ?_
      rotate_left
      · (intro w9 hSw; have y8 := hSw.p8; have y9 := hSw.p9; have y10 := hSw.p10; have z80 := y8.cell 0; have z81 := y8.cell 1; have z82 := y8.cell 2; have z90 := y9.cell 0; have z91 := y9.cell 1; have z92 := y9.cell 2; have z100 := y10.cell 0; have z101 := y10.cell 1; have z102 := y10.cell 2; simp at z80 z81 z82 z90 z91 z92 z100 z101 z102; clear hSw y8 y9 y10; go_simp; (try with_reducible rfl))
      try simp only [Act.put, List.setIfInBounds_toArray, List.set_cons_zero, List.set_cons_succ]
      refine takeL (i := 8) (v := ?_) rfl (by kernel_rfl) (by kernel_rfl) (by kernel_rfl) (fun _ _ _ h => h) (by rfl) ?_ (by assumption) ?_
      rotate_left
      · (intro w9 hSw; have y8 := hSw.p8; have y9 := hSw.p9; have y10 := hSw.p10; have z80 := y8.cell 0; have z81 := y8.cell 1; have z82 := y8.cell 2; have z90 := y9.cell 0; have z91 := y9.cell 1; have z92 := y9.cell 2; have z100 := y10.cell 0; have z101 := y10.cell 1; have z102 := y10.cell 2; simp at z80 z81 z82 z90 z91 z92 z100 z101 z102; clear hSw y8 y9 y10; go_simp; (try with_reducible rfl))
      try simp only [Act.put, List.setIfInBounds_toArray, List.set_cons_zero, List.set_cons_succ]
      refine takeL (i := 9) (v := ?_) rfl (by kernel_rfl) (by kernel_rfl) (by kernel_rfl) (fun _ _ _ h => h) (by rfl) ?_ (by assumption) ?_
      rotate_left
      · (intro w9 hSw; have y8 := hSw.p8; have y9 := hSw.p9; have y10 := hSw.p10; have z80 := y8.cell 0; have z81 := y8.cell 1; have z82 := y8.cell 2; have z90 := y9.cell 0; have z91 := y9.cell 1; have z92 := y9.cell 2; have z100 := y10.cell 0; have z101 := y10.cell 1; have z102 := y10.cell 2; simp at z80 z81 z82 z90 z91 z92 z100 z101 z102; clear hSw y8 y9 y10; go_simp; (try with_reducible rfl))
      try simp only [Act.put, List.setIfInBounds_toArray, List.set_cons_zero, List.set_cons_succ]
      refine call2L (i := 10) (j := 15) rfl rfl (by kernel_rfl) (fun Kont hK => ?_) (fun Kont hK => ?_)
      · go_simp
        go_at_call 52
        refine (HTG.out _ hHeld).mono ?_
        rintro e w7 ⟨a7, n7, c7, rfl, rd7, fr7, hne, kk7⟩
        go_wp2_with fail
        refine hK.out _ _ ?_ (fun hHeld2 => ?_)
        · exact hHeld.call kk7
        clear hK Kont
        refine takeL (i := 11) (v := ?_) rfl (by kernel_rfl) (by kernel_rfl) (by kernel_rfl) (fun _ _ _ h => h) (by rfl) ?_ (by assumption) ?_
        rotate_left
        · (intro w9 hSw; clear hSw; go_simp; (try with_reducible rfl))
        try simp only [Act.put, List.setIfInBounds_toArray, List.set_cons_zero, List.set_cons_succ]
        refine takeL (i := 12) (v := ?_) rfl (by kernel_rfl) (by kernel_rfl) (by kernel_rfl) (fun _ _ _ h => h) (by rfl) ?_ (by assumption) ?_
        rotate_left
        · (intro w9 hSw; clear hSw; go_simp; (try with_reducible rfl))
        try simp only [Act.put, List.setIfInBounds_toArray, List.set_cons_zero, List.set_cons_succ]
        refine takeL (i := 13) (v := ?_) rfl (by kernel_rfl) (by kernel_rfl) (by kernel_rfl) (fun _ _ _ h => h) (by rfl) ?_ (by assumption) ?_
        rotate_left
        · (intro w9 hSw; clear hSw; go_simp; (try with_reducible rfl))
        try simp only [Act.put, List.setIfInBounds_toArray, List.set_cons_zero, List.set_cons_succ]
        refine takeL (i := 14) (v := ?_) rfl (by kernel_rfl) (by kernel_rfl) (by kernel_rfl) (fun _ _ _ h => h) (by rfl) ?_ (by assumption) ?_
        rotate_left
        · (intro w9 hSw; clear hSw; go_simp; (try with_reducible rfl))
        try simp only [Act.put, List.setIfInBounds_toArray, List.set_cons_zero, List.set_cons_succ]
        refine callL (i := 15) rfl (by kernel_rfl) (fun Kont hK => ?_)
        go_simp
        refine hK.out _ _ ?_ (fun hHeld3 => ?_)
        · exact hHeld2.call ((Keeps.refl _ []).alloc _)
        clear hK Kont
        refine callL (i := 16) rfl (by kernel_rfl) (fun Kont hK => ?_)
        refine step_store_blk rfl 27 _ _ rfl w7.heap.size #[.int .i64 Gv, .slice a7 n7 c7] rfl rfl _ _ (Blk.new w7 #[.int .i64 0, nilV] 27) tbl_size rfl (by simp [Value.oneCell']) ?_
        intro W9 b9 k9
        have kA : Keeps w7 W9 [] := ((Keeps.refl w7 []).alloc _).trans k9 (fun j hj hlt => by simp at hj; omega)
        refine hK.out _ _ ?_ (fun hHeld4 => ?_)
        · exact hHeld2.call kA
        clear hK Kont
        have rd9 := rd7.keeps kA
        have fr9 : Fresh (g + 1) (.slice a7 n7 c7) := fr7.mono (by have := hHeld.rs.size; omega)
        obtain ⟨q, hq⟩ : ∃ q, w7.heap.size = q := ⟨_, rfl⟩
        have hqg : q ≠ g := by have := hHeld2.rs.size; omega
        rw [hq] at b9 ⊢
        refine takeL (i := 17) (v := ?_) rfl (by kernel_rfl) (by kernel_rfl) (by kernel_rfl) (fun _ _ _ h => h) (by rfl) ?_ (by assumption) ?_
        rotate_left
        · (intro w9 hSw; clear hSw; go_simp; (try with_reducible rfl))
        try simp only [Act.put, List.setIfInBounds_toArray, List.set_cons_zero, List.set_cons_succ]
        refine takeL (i := 18) (v := ?_) rfl (by kernel_rfl) (by kernel_rfl) (by kernel_rfl) (fun _ _ _ h => h) (by rfl) ?_ (by assumption) ?_
        rotate_left
        · (intro w9 hSw; clear hSw; go_simp; (try with_reducible rfl))
        try simp only [Act.put, List.setIfInBounds_toArray, List.set_cons_zero, List.set_cons_succ]
        refine wpAnyH_done (by kernel_rfl) ?_ _
        have hKj := hkj.out
        rcases hd : descP ((B.drop kj).take 1024) 44 9 with n' | ⟨G, L, m⟩
        · rw [hd] at hZ
          simp only [tabR, Prod.mk.injEq] at hZ
          obtain ⟨rfl, rfl, rfl, rfl⟩ := hZ
          have hn0 := hne _ hd
          have HN0 := Lib.hid hn0
          have HRe : Hid (R = .error n') := Lib.hid (by
            have h1 : getT B 1 kj (dOf d) = R := hrest.out
            rw [← h1]; simp only [getT, hd])
          have hnb : (n' != 0) = true := by simpa using hn0
          have B2 := hHeld4.rs.b2
          have KW9 := Lib.hid hHeld4.rs.kw
          clear hd hne hn0 hHeld hHeld2 hHeld3 hHeld4 rd7 fr7 kk7 k9 kA rd9 fr9 b9
          go_wp2_with (refine wpList_store_blk rfl 32 _ _ rfl w.heap.size zeroC rfl rfl _ _ B2 dict_size rfl (by simp [Value.oneCell']) ?_; intro Wf bf kf)
          rw [HRe.out]
          exact bodyPost_ret (v := .tuple #[.agg zeroC, .int .i64 n']) (res_cell_tmp rfl rfl rfl (load_dict bf rfl)) rfl ⟨KW9.out.trans kf (fun j hj hlt => by simp at hj; omega), HN0.out, rfl⟩
        rw [hd] at hZ
        simp only [tabR, Prod.mk.injEq] at hZ
        obtain ⟨rfl, rfl, rfl, rfl⟩ := hZ
        have HRn : Hid (getT B (3 - 3) (kj + m) (dOf { d with g1 := (G : Int), n1 := .slice a7 n7 c7, L1 := L }) = R) := Lib.hid (by
          have h1 : getT B 1 kj (dOf d) = R := hrest.out
          exact (getT_ok1 hd).symm.trans h1)
        have HKn := Lib.hid (descP_at hkj.out hd)
        have X5 := hHeld4.call ((Keeps.refl W9 []).drew)
        clear hd hne hHeld hHeld2 hHeld3 rd7 fr7 kk7 k9 kA
        have X4 := Lib.hid hHeld4
        clear hHeld4
        go_wp2_with fail
        refine wp_region_held_drew (S := (fun w' => Blk w' h8 #[.pointer (some ⟨g, 4, none⟩), .pointer (some ⟨g, 6, none⟩), .pointer (some ⟨g, 2, none⟩)] 77 ∧ Blk w' q #[.int .i64 (G : Int), .slice a7 n7 c7] 27)) (by kernel_rfl) ⟨X5.p8, b9.drew⟩ (fun hHeld5 => ?_)
        refine takeL (i := 0) (v := ?_) rfl (by kernel_rfl) (by kernel_rfl) (by kernel_rfl) (fun _ _ _ h => h) (by rfl) ?_ (by assumption) ?_
        rotate_left
        · (intro w9 hSw; have y8 := hSw.1; have yq := hSw.2; have z80 := y8.cell 0; have z81 := y8.cell 1; have z82 := y8.cell 2; have zq0 := yq.cell 0; have zq1 := yq.cell 1; simp at z80 z81 z82 zq0 zq1; clear hSw y8 yq; go_simp; (try with_reducible rfl))
        try simp only [Act.put, List.setIfInBounds_toArray, List.set_cons_zero, List.set_cons_succ]
        refine takeL (i := 1) (v := ?_) rfl (by kernel_rfl) (by kernel_rfl) (by kernel_rfl) (fun _ _ _ h => h) (by rfl) ?_ (by assumption) ?_
        rotate_left
        · (intro w9 hSw; have y8 := hSw.1; have yq := hSw.2; have z80 := y8.cell 0; have z81 := y8.cell 1; have z82 := y8.cell 2; have zq0 := yq.cell 0; have zq1 := yq.cell 1; simp at z80 z81 z82 zq0 zq1; clear hSw y8 yq; go_simp; (try with_reducible rfl))
        try simp only [Act.put, List.setIfInBounds_toArray, List.set_cons_zero, List.set_cons_succ]
        refine takeL (i := 2) (v := ?_) rfl (by kernel_rfl) (by kernel_rfl) (by kernel_rfl) (fun _ _ _ h => h) (by rfl) ?_ (by assumption) ?_
        rotate_left
        · (intro w9 hSw; have y8 := hSw.1; have yq := hSw.2; have z80 := y8.cell 0; have z81 := y8.cell 1; have z82 := y8.cell 2; have zq0 := yq.cell 0; have zq1 := yq.cell 1; simp at z80 z81 z82 zq0 zq1; clear hSw y8 yq; go_simp; (try with_reducible rfl))
        try simp only [Act.put, List.setIfInBounds_toArray, List.set_cons_zero, List.set_cons_succ]
        refine takeL (i := 3) (v := ?_) rfl (by kernel_rfl) (by kernel_rfl) (by kernel_rfl) (fun _ _ _ h => h) (by rfl) ?_ (by assumption) ?_
        rotate_left
        · (intro w9 hSw; have y8 := hSw.1; have yq := hSw.2; have z80 := y8.cell 0; have z81 := y8.cell 1; have z82 := y8.cell 2; have zq0 := yq.cell 0; have zq1 := yq.cell 1; simp at z80 z81 z82 zq0 zq1; clear hSw y8 yq; go_simp; (try with_reducible rfl))
        try simp only [Act.put, List.setIfInBounds_toArray, List.set_cons_zero, List.set_cons_succ]
        refine takeL (i := 4) (v := ?_) rfl (by kernel_rfl) (by kernel_rfl) (by kernel_rfl) (fun _ _ _ h => h) (by rfl) ?_ (by assumption) ?_
        rotate_left
        · (intro w9 hSw; have y8 := hSw.1; have yq := hSw.2; have z80 := y8.cell 0; have z81 := y8.cell 1; have z82 := y8.cell 2; have zq0 := yq.cell 0; have zq1 := yq.cell 1; simp at z80 z81 z82 zq0 zq1; clear hSw y8 yq; go_simp; (try with_reducible rfl))
        try simp only [Act.put, List.setIfInBounds_toArray, List.set_cons_zero, List.set_cons_succ]
        refine takeL (i := 5) (v := ?_) rfl (by kernel_rfl) (by kernel_rfl) (by kernel_rfl) (fun _ _ _ h => h) (by rfl) ?_ (by assumption) ?_
        rotate_left
        · (intro w9 hSw; have y8 := hSw.1; have yq := hSw.2; have z80 := y8.cell 0; have z81 := y8.cell 1; have z82 := y8.cell 2; have zq0 := yq.cell 0; have zq1 := yq.cell 1; simp at z80 z81 z82 zq0 zq1; clear hSw y8 yq; go_simp; (try with_reducible rfl))
        try simp only [Act.put, List.setIfInBounds_toArray, List.set_cons_zero, List.set_cons_succ]
        refine takeL (i := 6) (v := ?_) rfl (by kernel_rfl) (by kernel_rfl) (by kernel_rfl) (fun _ _ _ h => h) (by rfl) ?_ (by assumption) ?_
        rotate_left
        · (intro w9 hSw; have y8 := hSw.1; have yq := hSw.2; have z80 := y8.cell 0; have z81 := y8.cell 1; have z82 := y8.cell 2; have zq0 := yq.cell 0; have zq1 := yq.cell 1; simp at z80 z81 z82 zq0 zq1; clear hSw y8 yq; go_simp; (try with_reducible rfl))
        try simp only [Act.put, List.setIfInBounds_toArray, List.set_cons_zero, List.set_cons_succ]
        refine callL (i := 7) rfl (by kernel_rfl) (fun Kont hK => ?_)
        refine step_store_two rfl 27 _ _ rfl g 2 (.int .i64 (G : Int)) (.slice a7 n7 c7) rfl rfl _ _ X5.rs.b7 (by simp) tbl_size ⟨rfl, rfl⟩ ?_
        intro W10 b10 k10
        refine hK.out _ _ ?_ (fun hHeld6 => ?_)
        · exact ⟨hHeld5.1.keeps k10 (by have := X5.lt; simp; omega), hHeld5.2.keeps k10 (by simp; exact hqg)⟩
        clear hK Kont
        have XN := Lib.hid (X5.set (d' := { d with g1 := (G : Int), n1 := .slice a7 n7 c7, L1 := L }) k10 (X5.rs.set (d' := { d with g1 := (G : Int), n1 := .slice a7 n7 c7, L1 := L }) k10 (by simpa using b10) ⟨X5.rs.rt, X5.rs.ft⟩ ⟨rd9.keeps (Keeps.refl _ _).drew, fr9⟩ ⟨X5.rs.r2, X5.rs.f2⟩ ⟨X5.rs.r3, X5.rs.f3⟩ rfl))
        clear b10 k10 X5 hHeld5
        refine takeL (i := 8) (v := ?_) rfl (by kernel_rfl) (by kernel_rfl) (by kernel_rfl) (fun _ _ _ h => h) (by rfl) ?_ (by assumption) ?_
        rotate_left
        · (intro w9 hSw; clear hSw; go_simp; (try with_reducible rfl))
        try simp only [Act.put, List.setIfInBounds_toArray, List.set_cons_zero, List.set_cons_succ]
        refine wpAnyH_done (by kernel_rfl) ?_ _
        go_wp2_with fail
        go_roundw
        case rel => exact ⟨3, kj + m, _, by omega, rfl, by first | rfl | go_num, XN, HKn, HRn⟩
        case measure => simp [intOf]
      · go_simp
        refine hK.out _ _ ?_ (fun hHeld2 => ?_)
        · exact hHeld.call ((Keeps.refl _ []).alloc _)
        clear hK Kont
        refine callL (i := 10) rfl (by kernel_rfl) (fun Kont hK => ?_)
        go_simp
        go_at_call 52
        refine (HTG.out _ hHeld2).mono ?_
        rintro e w7 ⟨a7, n7, c7, rfl, rd7, fr7, hne, kk7⟩
        go_wp2_with fail
        refine hK.out _ _ ?_ (fun hHeld3 => ?_)
        · exact hHeld2.call kk7
        clear hK Kont
        refine takeL (i := 11) (v := ?_) rfl (by kernel_rfl) (by kernel_rfl) (by kernel_rfl) (fun _ _ _ h => h) (by rfl) ?_ (by assumption) ?_
        rotate_left
        · (intro w9 hSw; clear hSw; go_simp; (try with_reducible rfl))
        try simp only [Act.put, List.setIfInBounds_toArray, List.set_cons_zero, List.set_cons_succ]
        refine takeL (i := 12) (v := ?_) rfl (by kernel_rfl) (by kernel_rfl) (by kernel_rfl) (fun _ _ _ h => h) (by rfl) ?_ (by assumption) ?_
        rotate_left
        · (intro w9 hSw; clear hSw; go_simp; (try with_reducible rfl))
        try simp only [Act.put, List.setIfInBounds_toArray, List.set_cons_zero, List.set_cons_succ]
        refine takeL (i := 13) (v := ?_) rfl (by kernel_rfl) (by kernel_rfl) (by kernel_rfl) (fun _ _ _ h => h) (by rfl) ?_ (by assumption) ?_
        rotate_left
        · (intro w9 hSw; clear hSw; go_simp; (try with_reducible rfl))
        try simp only [Act.put, List.setIfInBounds_toArray, List.set_cons_zero, List.set_cons_succ]
        refine takeL (i := 14) (v := ?_) rfl (by kernel_rfl) (by kernel_rfl) (by kernel_rfl) (fun _ _ _ h => h) (by rfl) ?_ (by assumption) ?_
        rotate_left
        · (intro w9 hSw; clear hSw; go_simp; (try with_reducible rfl))
        try simp only [Act.put, List.setIfInBounds_toArray, List.set_cons_zero, List.set_cons_succ]
        refine callL (i := 16) rfl (by kernel_rfl) (fun Kont hK => ?_)
        refine step_store_blk rfl 27 _ _ rfl wr.heap.size #[.int .i64 Gv, .slice a7 n7 c7] rfl rfl _ _ ((Blk.new wr #[.int .i64 0, nilV] 27).drew.keeps kk7 (by simp)) tbl_size rfl (by simp [Value.oneCell']) ?_
        intro W9 b9 k9
        have kA : Keeps wr W9 [] := (((Keeps.refl wr []).alloc (.cells #[.int .i64 0, nilV] 27)).drew.then kk7).trans k9 (fun j hj hlt => by simp at hj; omega)
        refine hK.out _ _ ?_ (fun hHeld4 => ?_)
        · exact hRL.out.call kA
        clear hK Kont
        have rd9 := rd7.past fr7 k9 (by simp)
        have fr9 : Fresh (g + 1) (.slice a7 n7 c7) := fr7.mono (by have := hHeld2.rs.size; omega)
        obtain ⟨q, hq⟩ : ∃ q, wr.heap.size = q := ⟨_, rfl⟩
        have hqg : q ≠ g := by have := hRL.out.rs.size; omega
        rw [hq] at b9 ⊢
        refine takeL (i := 17) (v := ?_) rfl (by kernel_rfl) (by kernel_rfl) (by kernel_rfl) (fun _ _ _ h => h) (by rfl) ?_ (by assumption) ?_
        rotate_left
        · (intro w9 hSw; clear hSw; go_simp; (try with_reducible rfl))
        try simp only [Act.put, List.setIfInBounds_toArray, List.set_cons_zero, List.set_cons_succ]
        refine takeL (i := 18) (v := ?_) rfl (by kernel_rfl) (by kernel_rfl) (by kernel_rfl) (fun _ _ _ h => h) (by rfl) ?_ (by assumption) ?_
        rotate_left
        · (intro w9 hSw; clear hSw; go_simp; (try with_reducible rfl))
        try simp only [Act.put, List.setIfInBounds_toArray, List.set_cons_zero, List.set_cons_succ]
        refine wpAnyH_done (by kernel_rfl) ?_ _
        have hKj := hkj.out
        rcases hd : descP ((B.drop kj).take 1024) 44 9 with n' | ⟨G, L, m⟩
        · rw [hd] at hZ
          simp only [tabR, Prod.mk.injEq] at hZ
          obtain ⟨rfl, rfl, rfl, rfl⟩ := hZ
          have hn0 := hne _ hd
          have HN0 := Lib.hid hn0
          have HRe : Hid (R = .error n') := Lib.hid (by
            have h1 : getT B 1 kj (dOf d) = R := hrest.out
            rw [← h1]; simp only [getT, hd])
          have hnb : (n' != 0) = true := by simpa using hn0
          have B2 := hHeld4.rs.b2
          have KW9 := Lib.hid hHeld4.rs.kw
          clear hd hne hn0 hHeld hHeld2 hHeld3 hHeld4 rd7 fr7 kk7 k9 kA rd9 fr9 b9
          go_wp2_with (refine wpList_store_blk rfl 32 _ _ rfl w.heap.size zeroC rfl rfl _ _ B2 dict_size rfl (by simp [Value.oneCell']) ?_; intro Wf bf kf)
          rw [HRe.out]
          exact bodyPost_ret (v := .tuple #[.agg zeroC, .int .i64 n']) (res_cell_tmp rfl rfl rfl (load_dict bf rfl)) rfl ⟨KW9.out.trans kf (fun j hj hlt => by simp at hj; omega), HN0.out, rfl⟩
        rw [hd] at hZ
        simp only [tabR, Prod.mk.injEq] at hZ
        obtain ⟨rfl, rfl, rfl, rfl⟩ := hZ
        have HRn : Hid (getT B (3 - 3) (kj + m) (dOf { d with g1 := (G : Int), n1 := .slice a7 n7 c7, L1 := L }) = R) := Lib.hid (by
          have h1 : getT B 1 kj (dOf d) = R := hrest.out
          exact (getT_ok1 hd).symm.trans h1)
        have HKn := Lib.hid (descP_at hkj.out hd)
        have X5 := hHeld4.call ((Keeps.refl W9 []).drew)
        clear hd hne hHeld hHeld2 hHeld3 rd7 fr7 kk7 k9 kA
        have X4 := Lib.hid hHeld4
        clear hHeld4
        go_wp2_with fail
        refine wp_region_held_drew (S := (fun w' => Blk w' h8 #[.pointer (some ⟨g, 4, none⟩), .pointer (some ⟨g, 6, none⟩), .pointer (some ⟨g, 2, none⟩)] 77 ∧ Blk w' q #[.int .i64 (G : Int), .slice a7 n7 c7] 27)) (by kernel_rfl) ⟨X5.p8, b9.drew⟩ (fun hHeld5 => ?_)
        refine takeL (i := 0) (v := ?_) rfl (by kernel_rfl) (by kernel_rfl) (by kernel_rfl) (fun _ _ _ h => h) (by rfl) ?_ (by assumption) ?_
        rotate_left
        · (intro w9 hSw; have y8 := hSw.1; have yq := hSw.2; have z80 := y8.cell 0; have z81 := y8.cell 1; have z82 := y8.cell 2; have zq0 := yq.cell 0; have zq1 := yq.cell 1; simp at z80 z81 z82 zq0 zq1; clear hSw y8 yq; go_simp; (try with_reducible rfl))
        try simp only [Act.put, List.setIfInBounds_toArray, List.set_cons_zero, List.set_cons_succ]
        refine takeL (i := 1) (v := ?_) rfl (by kernel_rfl) (by kernel_rfl) (by kernel_rfl) (fun _ _ _ h => h) (by rfl) ?_ (by assumption) ?_
        rotate_left
        · (intro w9 hSw; have y8 := hSw.1; have yq := hSw.2; have z80 := y8.cell 0; have z81 := y8.cell 1; have z82 := y8.cell 2; have zq0 := yq.cell 0; have zq1 := yq.cell 1; simp at z80 z81 z82 zq0 zq1; clear hSw y8 yq; go_simp; (try with_reducible rfl))
        try simp only [Act.put, List.setIfInBounds_toArray, List.set_cons_zero, List.set_cons_succ]
        refine takeL (i := 2) (v := ?_) rfl (by kernel_rfl) (by kernel_rfl) (by kernel_rfl) (fun _ _ _ h => h) (by rfl) ?_ (by assumption) ?_
        rotate_left
        · (intro w9 hSw; have y8 := hSw.1; have yq := hSw.2; have z80 := y8.cell 0; have z81 := y8.cell 1; have z82 := y8.cell 2; have zq0 := yq.cell 0; have zq1 := yq.cell 1; simp at z80 z81 z82 zq0 zq1; clear hSw y8 yq; go_simp; (try with_reducible rfl))
        try simp only [Act.put, List.setIfInBounds_toArray, List.set_cons_zero, List.set_cons_succ]
        refine takeL (i := 3) (v := ?_) rfl (by kernel_rfl) (by kernel_rfl) (by kernel_rfl) (fun _ _ _ h => h) (by rfl) ?_ (by assumption) ?_
        rotate_left
        · (intro w9 hSw; have y8 := hSw.1; have yq := hSw.2; have z80 := y8.cell 0; have z81 := y8.cell 1; have z82 := y8.cell 2; have zq0 := yq.cell 0; have zq1 := yq.cell 1; simp at z80 z81 z82 zq0 zq1; clear hSw y8 yq; go_simp; (try with_reducible rfl))
        try simp only [Act.put, List.setIfInBounds_toArray, List.set_cons_zero, List.set_cons_succ]
        refine takeL (i := 4) (v := ?_) rfl (by kernel_rfl) (by kernel_rfl) (by kernel_rfl) (fun _ _ _ h => h) (by rfl) ?_ (by assumption) ?_
        rotate_left
        · (intro w9 hSw; have y8 := hSw.1; have yq := hSw.2; have z80 := y8.cell 0; have z81 := y8.cell 1; have z82 := y8.cell 2; have zq0 := yq.cell 0; have zq1 := yq.cell 1; simp at z80 z81 z82 zq0 zq1; clear hSw y8 yq; go_simp; (try with_reducible rfl))
        try simp only [Act.put, List.setIfInBounds_toArray, List.set_cons_zero, List.set_cons_succ]
        refine takeL (i := 5) (v := ?_) rfl (by kernel_rfl) (by kernel_rfl) (by kernel_rfl) (fun _ _ _ h => h) (by rfl) ?_ (by assumption) ?_
        rotate_left
        · (intro w9 hSw; have y8 := hSw.1; have yq := hSw.2; have z80 := y8.cell 0; have z81 := y8.cell 1; have z82 := y8.cell 2; have zq0 := yq.cell 0; have zq1 := yq.cell 1; simp at z80 z81 z82 zq0 zq1; clear hSw y8 yq; go_simp; (try with_reducible rfl))
        try simp only [Act.put, List.setIfInBounds_toArray, List.set_cons_zero, List.set_cons_succ]
        refine takeL (i := 6) (v := ?_) rfl (by kernel_rfl) (by kernel_rfl) (by kernel_rfl) (fun _ _ _ h => h) (by rfl) ?_ (by assumption) ?_
        rotate_left
        · (intro w9 hSw; have y8 := hSw.1; have yq := hSw.2; have z80 := y8.cell 0; have z81 := y8.cell 1; have z82 := y8.cell 2; have zq0 := yq.cell 0; have zq1 := yq.cell 1; simp at z80 z81 z82 zq0 zq1; clear hSw y8 yq; go_simp; (try with_reducible rfl))
        try simp only [Act.put, List.setIfInBounds_toArray, List.set_cons_zero, List.set_cons_succ]
        refine callL (i := 7) rfl (by kernel_rfl) (fun Kont hK => ?_)
        refine step_store_two rfl 27 _ _ rfl g 2 (.int .i64 (G : Int)) (.slice a7 n7 c7) rfl rfl _ _ X5.rs.b7 (by simp) tbl_size ⟨rfl, rfl⟩ ?_
        intro W10 b10 k10
        refine hK.out _ _ ?_ (fun hHeld6 => ?_)
        · exact ⟨hHeld5.1.keeps k10 (by have := X5.lt; simp; omega), hHeld5.2.keeps k10 (by simp; exact hqg)⟩
        clear hK Kont
        have XN := Lib.hid (X5.set (d' := { d with g1 := (G : Int), n1 := .slice a7 n7 c7, L1 := L }) k10 (X5.rs.set (d' := { d with g1 := (G : Int), n1 := .slice a7 n7 c7, L1 := L }) k10 (by simpa using b10) ⟨X5.rs.rt, X5.rs.ft⟩ ⟨rd9.keeps (Keeps.refl _ _).drew, fr9⟩ ⟨X5.rs.r2, X5.rs.f2⟩ ⟨X5.rs.r3, X5.rs.f3⟩ rfl))
        clear b10 k10 X5 hHeld5
        refine takeL (i := 8) (v := ?_) rfl (by kernel_rfl) (by kernel_rfl) (by kernel_rfl) (fun _ _ _ h => h) (by rfl) ?_ (by assumption) ?_
        rotate_left
        · (intro w9 hSw; clear hSw; go_simp; (try with_reducible rfl))
        try simp only [Act.put, List.setIfInBounds_toArray, List.set_cons_zero, List.set_cons_succ]
        refine wpAnyH_done (by kernel_rfl) ?_ _
        go_wp2_with fail
        go_roundw
        case rel => exact ⟨3, kj + m, _, by omega, rfl, by first | rfl | go_num, XN, HKn, HRn⟩
        case measure => simp [intOf]
    · go_wp2_with fail
      have HR3 : Hid (getD3 B kj (dOf d) = R) := Lib.hid (getT0.symm.trans (show getT B 0 kj (dOf d) = R from hrest.out))
      have HREP := Lib.hid (rreps_any kj _ B wr (HV.out.keeps hRL.out.rs.kw) (by have := HLb.out.1; omega) HLb.out.2 hkj.out)
      unfold getD3 at HR3
      rcases hg6 : contR B 3 kj [] with n' | ⟨acc, k6⟩
      · rw [hg6] at HR3 HREP
        refine HREP.out.mono ?_
        rintro e w8 ⟨k8, hn0, y0, y1, y2, k', rfl⟩
        have L8 := hRL.out.call k8
        have HN0 := Lib.hid hn0
        have hnb : (n' != 0) = true := by simpa using hn0
        have c8 : w8.cell? ⟨g, 8, none⟩ = some (.int .i64 d.a) := L8.rs.b7.cell 8
        have c9 : w8.cell? ⟨g, 9, none⟩ = some (.int .i64 d.b) := L8.rs.b7.cell 9
        have c10 : w8.cell? ⟨g, 10, none⟩ = some (.int .i64 d.c) := L8.rs.b7.cell 10
        have f8 := L8.rs.b7.frozen 8
        have f9 := L8.rs.b7.frozen 9
        have f10 := L8.rs.b7.frozen 10
        have kb : Keeps w8 (((w8.setCell ⟨g, 8, none⟩ (.int .i64 y0)).setCell ⟨g, 9, none⟩ (.int .i64 y1)).setCell ⟨g, 10, none⟩ (.int .i64 y2)) [g] := (((Keeps.refl _ _).setCell (.inr (by simp)) _).setCell (.inr (by simp)) _).setCell (.inr (by simp)) _
        have B2 := L8.rs.b2.keeps kb (by simp; omega)
        have KW9 := Lib.hid (L8.rs.kw.trans kb (fun j hj hlt => by simp at hj; omega))
        clear L8 k8 hg6 hn0 kb
        go_wp2_with (refine wpList_store_blk rfl 32 _ _ rfl w.heap.size zeroC rfl rfl _ _ B2 dict_size rfl (by simp [Value.oneCell']) ?_; intro Wf bf kf)
        rw [← HR3.out]
        exact bodyPost_ret (v := .tuple #[.agg zeroC, .int .i64 n']) (res_cell_tmp rfl rfl rfl (load_dict bf rfl)) rfl ⟨KW9.out.trans kf (fun j hj hlt => by simp at hj; omega), HN0.out, rfl⟩
      rw [hg6] at HR3 HREP
      dsimp only at HR3
      have HK6 := Lib.hid (contR_le 3 kj [] acc k6 hkj.out hg6)
      refine HREP.out.mono ?_
      rintro e w8 ⟨k8, x0, x1, x2, rfl, rfl⟩
      have L8 := hRL.out.call k8
      have c8 : w8.cell? ⟨g, 8, none⟩ = some (.int .i64 d.a) := L8.rs.b7.cell 8
      have c9 : w8.cell? ⟨g, 9, none⟩ = some (.int .i64 d.b) := L8.rs.b7.cell 9
      have c10 : w8.cell? ⟨g, 10, none⟩ = some (.int .i64 d.c) := L8.rs.b7.cell 10
      have f8 := L8.rs.b7.frozen 8
      have f9 := L8.rs.b7.frozen 9
      have f10 := L8.rs.b7.frozen 10
      have kb : Keeps w8 (((w8.setCell ⟨g, 8, none⟩ (.int .i64 (x0 : Int))).setCell ⟨g, 9, none⟩ (.int .i64 (x1 : Int))).setCell ⟨g, 10, none⟩ (.int .i64 (x2 : Int))) [g] := (((Keeps.refl _ _).setCell (.inr (by simp)) _).setCell (.inr (by simp)) _).setCell (.inr (by simp)) _
      have b10 := ((L8.rs.b7.set 8 (.int .i64 (x0 : Int))).set 9 (.int .i64 (x1 : Int))).set 10 (.int .i64 (x2 : Int))
      have S9 := Lib.hid (L8.rs.set (d' := { d with a := (x0 : Int), b := (x1 : Int), c := (x2 : Int) }) kb (by simpa using b10) ⟨L8.rs.rt, L8.rs.ft⟩ ⟨L8.rs.r1, L8.rs.f1⟩ ⟨L8.rs.r2, L8.rs.f2⟩ ⟨L8.rs.r3, L8.rs.f3⟩ rfl)
      clear L8 k8 hg6 kb b10
      go_wp2_with fail
      generalize (((w8.setCell ⟨g, 8, none⟩ (.int .i64 (x0 : Int))).setCell ⟨g, 9, none⟩ (.int .i64 (x1 : Int))).setCell ⟨g, 10, none⟩ (.int .i64 (x2 : Int))) = W9 at *
      clear c8 c9 c10 f8 f9 f10 HREP hRL
      have HNU := Lib.hid (rvnumber_any k6 134217728 _ B W9 (HV.out.keeps S9.out.kw) (by have := HLb.out.1; omega) HLb.out.2 HK6.out (by decide))
      rw [show ((134217728 : Nat) : Int) = 134217728 by decide] at HNU
      have hKN := numK_le (M := 134217728) HK6.out
      have HR4 : Hid ((match conR B k6 (x0 : Int) (x1 : Int) (x2 : Int) with
          | .error n => .error n
          | .ok (X, k2) => if k2 = B.length then .ok { dOf d with a := (x0 : Int), b := (x1 : Int), c := (x2 : Int), X := X } else .error 4) = R) := HR3
      unfold conR at HR4
      obtain ⟨EN, hEN⟩ : ∃ E, numE B k6 134217728 = E := ⟨_, rfl⟩
      obtain ⟨N, hNN⟩ : ∃ n, numX B k6 134217728 = n := ⟨_, rfl⟩
      obtain ⟨KN, hKNq⟩ : ∃ K, numK B k6 134217728 = K := ⟨_, rfl⟩
      have hNM : Hid (EN = 0 → N ≤ 134217728) := Lib.hid (fun h => by rw [← hNN]; exact numX_most (by rw [hEN]; exact h))
      rw [hEN, hNN, hKNq] at HR4 HNU
      rw [hKNq] at hKN
      have HKN := Lib.hid hKN
      clear hEN hNN hKNq hKN HR3 hrest hkj HK6
      refine HNU.out.mono ?_
      rintro e w10 ⟨rfl, k10⟩
      have S10 := Lib.hid (S9.out.call k10)
      have c8 : w10.cell? ⟨g, 8, none⟩ = some (.int .i64 (x0 : Int)) := S10.out.b7.cell 8
      have c9 : w10.cell? ⟨g, 9, none⟩ = some (.int .i64 (x1 : Int)) := S10.out.b7.cell 9
      have c10 : w10.cell? ⟨g, 10, none⟩ = some (.int .i64 (x2 : Int)) := S10.out.b7.cell 10
      clear k10 HNU S9
      by_cases hE : EN ≠ 0
      · have HRe : Hid (R = .error EN) := Lib.hid (by rw [← HR4.out, if_pos hE])
        have HE := Lib.hid hE
        have hE1 : (EN == 0) = false := by simpa using hE
        have hE2 : (EN != 0) = true := by simpa using hE
        clear hE HR4
        have B2 := S10.out.b2.alloc (.cells #[.int .i64 (x0 : Int), .int .i64 (x1 : Int), .int .i64 (x2 : Int)] 28)
        have KW9 := Lib.hid (S10.out.kw.alloc (.cells #[.int .i64 (x0 : Int), .int .i64 (x1 : Int), .int .i64 (x2 : Int)] 28))
        go_wp2_with (refine wpList_store_blk rfl 32 _ _ rfl w.heap.size zeroC rfl rfl _ _ B2 dict_size rfl (by simp [Value.oneCell']) ?_; intro Wf bf kf)
        rw [HRe.out]
        exact bodyPost_ret (v := .tuple #[.agg zeroC, .int .i64 EN]) (res_cell_tmp rfl rfl rfl (load_dict bf rfl)) rfl ⟨KW9.out.trans kf (fun j hj hlt => by simp at hj; omega), HE.out, rfl⟩
      obtain rfl : EN = 0 := by simpa using hE
      rw [if_neg (by simp)] at HR4
      clear hE
      by_cases h8N : (N : Int) < 8
      · have HRe : Hid (R = .error 9) := Lib.hid (by rw [← HR4.out, if_pos (.inl h8N)])
        have h8n : N < 8 := by omega
        clear HR4
        have B2 := S10.out.b2.alloc (.cells #[.int .i64 (x0 : Int), .int .i64 (x1 : Int), .int .i64 (x2 : Int)] 28)
        have KW9 := Lib.hid (S10.out.kw.alloc (.cells #[.int .i64 (x0 : Int), .int .i64 (x1 : Int), .int .i64 (x2 : Int)] 28))
        go_wp2_with (refine wpList_store_blk rfl 32 _ _ rfl w.heap.size zeroC rfl rfl _ _ B2 dict_size rfl (by simp [Value.oneCell']) ?_; intro Wf bf kf)
        rw [HRe.out]
        exact bodyPost_ret (v := .tuple #[.agg zeroC, .int .i64 9]) (res_cell_tmp rfl rfl rfl (load_dict bf rfl)) rfl ⟨KW9.out.trans kf (fun j hj hlt => by simp at hj; omega), by decide, rfl⟩
      have h8d : decide ((N : Int) < 8) = false := decide_eq_false h8N
      have h8n : decide (N < 8) = false := decide_eq_false (by omega)
      by_cases hx0 : (N : Int) < (x0 : Int)
      · have HRe : Hid (R = .error 9) := Lib.hid (by rw [← HR4.out, if_pos (.inr (mx3_a hx0))])
        have hx0n : N < x0 := by omega
        clear HR4
        have B2 := S10.out.b2.alloc (.cells #[.int .i64 (x0 : Int), .int .i64 (x1 : Int), .int .i64 (x2 : Int)] 28)
        have KW9 := Lib.hid (S10.out.kw.alloc (.cells #[.int .i64 (x0 : Int), .int .i64 (x1 : Int), .int .i64 (x2 : Int)] 28))
        go_wp2_with (refine wpList_store_blk rfl 32 _ _ rfl w.heap.size zeroC rfl rfl _ _ B2 dict_size rfl (by simp [Value.oneCell']) ?_; intro Wf bf kf)
        rw [HRe.out]
        exact bodyPost_ret (v := .tuple #[.agg zeroC, .int .i64 9]) (res_cell_tmp rfl rfl rfl (load_dict bf rfl)) rfl ⟨KW9.out.trans kf (fun j hj hlt => by simp at hj; omega), by decide, rfl⟩
      have hx0d : decide ((N : Int) < (x0 : Int)) = false := decide_eq_false hx0
      have hx0n : decide (N < x0) = false := decide_eq_false (by omega)
      by_cases hx1 : (N : Int) < (x1 : Int)
      · have HRe : Hid (R = .error 9) := Lib.hid (by rw [← HR4.out, if_pos (.inr (mx3_b hx1))])
        have hx1n : N < x1 := by omega
        clear HR4
        have B2 := S10.out.b2.alloc (.cells #[.int .i64 (x0 : Int), .int .i64 (x1 : Int), .int .i64 (x2 : Int)] 28)
        have KW9 := Lib.hid (S10.out.kw.alloc (.cells #[.int .i64 (x0 : Int), .int .i64 (x1 : Int), .int .i64 (x2 : Int)] 28))
        go_wp2_with (refine wpList_store_blk rfl 32 _ _ rfl w.heap.size zeroC rfl rfl _ _ B2 dict_size rfl (by simp [Value.oneCell']) ?_; intro Wf bf kf)
        rw [HRe.out]
        exact bodyPost_ret (v := .tuple #[.agg zeroC, .int .i64 9]) (res_cell_tmp rfl rfl rfl (load_dict bf rfl)) rfl ⟨KW9.out.trans kf (fun j hj hlt => by simp at hj; omega), by decide, rfl⟩
      have hx1d : decide ((N : Int) < (x1 : Int)) = false := decide_eq_false hx1
      have hx1n : decide (N < x1) = false := decide_eq_false (by omega)
      by_cases hx2 : (N : Int) < (x2 : Int)
      · have HRe : Hid (R = .error 9) := Lib.hid (by rw [← HR4.out, if_pos (.inr (mx3_c hx2))])
        have hx2n : N < x2 := by omega
        clear HR4
        have B2 := S10.out.b2.alloc (.cells #[.int .i64 (x0 : Int), .int .i64 (x1 : Int), .int .i64 (x2 : Int)] 28)
        have KW9 := Lib.hid (S10.out.kw.alloc (.cells #[.int .i64 (x0 : Int), .int .i64 (x1 : Int), .int .i64 (x2 : Int)] 28))
        go_wp2_with (refine wpList_store_blk rfl 32 _ _ rfl w.heap.size zeroC rfl rfl _ _ B2 dict_size rfl (by simp [Value.oneCell']) ?_; intro Wf bf kf)
        rw [HRe.out]
        exact bodyPost_ret (v := .tuple #[.agg zeroC, .int .i64 9]) (res_cell_tmp rfl rfl rfl (load_dict bf rfl)) rfl ⟨KW9.out.trans kf (fun j hj hlt => by simp at hj; omega), by decide, rfl⟩
      have hx2d : decide ((N : Int) < (x2 : Int)) = false := decide_eq_false hx2
      have hx2n : decide (N < x2) = false := decide_eq_false (by omega)
      have HR5 : Hid ((match (if bytesE B KN (N : Nat) ≠ 0 then (.error (bytesE B KN (N : Nat)) : Except Int (List Int × Nat)) else .ok (bytesX B KN (N : Nat), bytesK B KN (N : Nat))) with
          | .error n => .error n
          | .ok (X, k2) => if k2 = B.length then .ok { dOf d with a := (x0 : Int), b := (x1 : Int), c := (x2 : Int), X := X } else .error 4) = R) := Lib.hid (by
        have hnot : ¬ ((N : Int) < 8 ∨ (N : Int) < mxL [(x0 : Int), (x1 : Int), (x2 : Int)]) := fun h => by
          rcases h with h | h
          · exact h8N h
          · exact mx3_le (by omega) (by omega) (by omega) (by omega) h
        rw [← HR4.out, if_neg hnot])
      have hN8 : Hid (8 ≤ N) := Lib.hid (by omega)
      clear HR4 h8N hx0 hx1 hx2
      have HBY := Lib.hid (fun W (kk : Keeps w10 W []) => rvbytes_any KN N _ B W (HV.out.keeps (S10.out.kw.then kk)) (by have := HLb.out.1; omega) HKN.out (by have := hNM.out rfl; omega))
      have HKB := Lib.hid (bytesK_le (m := N) HKN.out)
      have HXL : Hid (bytesE B KN (N : Nat) = 0 → bytesX B KN (N : Nat) ≠ []) := Lib.hid (fun h => by
        have h9 := hN8.out
        have hk := HKN.out
        unfold bytesX
        rw [if_pos h]
        unfold bytesE at h
        split at h
        · cases h
        split at h
        · cases h
        intro h0
        have := congrArg List.length h0
        simp at this
        omega)
      unfold RByEnd at HBY
      obtain ⟨G, hG⟩ : ∃ G, bytesE B KN (N : Nat) = G := ⟨_, rfl⟩
      obtain ⟨XX, hXX⟩ : ∃ G, bytesX B KN (N : Nat) = G := ⟨_, rfl⟩
      obtain ⟨K2, hK2⟩ : ∃ G, bytesK B KN (N : Nat) = G := ⟨_, rfl⟩
      rw [hG, hXX, hK2] at HR5 HBY
      rw [hK2] at HKB
      rw [hG, hXX] at HXL
      clear hG hXX hK2
      have B10 := Lib.hid (S10.out.b2.alloc (.cells #[.int .i64 (x0 : Int), .int .i64 (x1 : Int), .int .i64 (x2 : Int)] 28))
      have KW10 := Lib.hid ((Keeps.refl w10 []).alloc (.cells #[.int .i64 (x0 : Int), .int .i64 (x1 : Int), .int .i64 (x2 : Int)] 28))
      by_cases hG0 : G ≠ 0
      · have HRe : Hid (R = .error G) := Lib.hid (by rw [← HR5.out, if_pos hG0])
        have HG0 := Lib.hid hG0
        have hG1 : (G == 0) = false := by simpa using hG0
        have hG2 : (G != 0) = true := by simpa using hG0
        clear hG0 HR5 HXL
        go_wp2_with (first
          | (go_at_call 55; go_loud (refine (HBY.out _ KW10.out).mono ?_; rintro e w12 ⟨r, rfl, rr, k12⟩; clear rr; have B12 := B10.out.keeps k12 (by simp); have KW12 := Lib.hid ((S10.out.kw.then KW10.out).then k12)))
          | (refine wpList_store_blk rfl 32 _ _ rfl w.heap.size zeroC rfl rfl _ _ B12 dict_size rfl (by simp [Value.oneCell']) ?_; intro Wf bf kf))
        rw [HRe.out]
        exact bodyPost_ret (v := .tuple #[.agg zeroC, .int .i64 G]) (res_cell_tmp rfl rfl rfl (load_dict bf rfl)) rfl ⟨KW12.out.trans kf (fun j hj hlt => by simp at hj; omega), HG0.out, rfl⟩
      obtain rfl : G = 0 := by simpa using hG0
      rw [if_neg (by simp)] at HR5
      clear hG0
      have HXN := Lib.hid (HXL.out rfl)
      clear HXL
      by_cases hK : K2 < B.length
      · have HRe : Hid (R = .error 4) := Lib.hid (by have h9 := HR5.out; dsimp only at h9; rw [← h9, if_neg (by omega)])
        have hn9 := HN.out
        have hKd : (K2 : Int) < (n : Int) := by omega
        have hKn : K2 < n := by omega
        clear hK HR5 hn9 HXN
        go_wp2_with (first
          | (go_at_call 55; go_loud (refine (HBY.out _ KW10.out).mono ?_; rintro e w12 ⟨r, rfl, rr, k12⟩; clear rr; have B12 := B10.out.keeps k12 (by simp); have KW12 := Lib.hid ((S10.out.kw.then KW10.out).then k12)))
          | (refine wpList_store_blk rfl 32 _ _ rfl w.heap.size zeroC rfl rfl _ _ B12 dict_size rfl (by simp [Value.oneCell']) ?_; intro Wf bf kf))
        rw [HRe.out]
        exact bodyPost_ret (v := .tuple #[.agg zeroC, .int .i64 4]) (res_cell_tmp rfl rfl rfl (load_dict bf rfl)) rfl ⟨KW12.out.trans kf (fun j hj hlt => by simp at hj; omega), by decide, rfl⟩
      have hn9 := HN.out
      have hk9 := HKB.out
      have HRe : Hid (R = .ok { dOf d with a := (x0 : Int), b := (x1 : Int), c := (x2 : Int), X := XX }) := Lib.hid (by have h9 := HR5.out; dsimp only at h9; rw [← h9, if_pos (by omega)])
      have hKd : decide ((K2 : Int) < (n : Int)) = false := decide_eq_false (by omega)
      have hKn : decide (K2 < n) = false := decide_eq_false (by omega)
      clear hK hn9 hk9 HR5
      obtain ⟨did, dt, dn1, dn2, dn3, dx, dT, dL1, dL2, dL3, dX, dg1, dg2, dg3, da', db', dc'⟩ := d
      have r0 : RdI .i64 w10 dt dT := S10.out.rt
      have r1 : RdI .i64 w10 dn1 dL1 := S10.out.r1
      have r2 : RdI .i64 w10 dn2 dL2 := S10.out.r2
      have r3 : RdI .i64 w10 dn3 dL3 := S10.out.r3
      obtain ⟨da, dm, dc, rfl, -, -⟩ := r0.form
      obtain ⟨d1a, d1m, d1c, rfl, -, -⟩ := r1.form
      obtain ⟨d2a, d2m, d2c, rfl, -, -⟩ := r2.form
      obtain ⟨d3a, d3m, d3c, rfl, -, -⟩ := r3.form
      clear r0 r1 r2 r3
      go_wp2_with (first
        | (go_at_call 55; go_loud (refine (HBY.out _ KW10.out).mono ?_; rintro e w12 ⟨r, rfl, rr, k12⟩; obtain ⟨qa, qm, qc, rfl, -, -⟩ := rr.form; have RR := Lib.hid rr; clear rr; have S12 := Lib.hid ((S10.out.call KW10.out).call k12); have c11 : w12.cell? ⟨g, 11, none⟩ = some dx := S12.out.b7.cell 11; have f11 := S12.out.b7.frozen 11; have b11 : Blk (w12.setCell ⟨g, 11, none⟩ (.slice qa qm qc)) g (dictC did (.slice da dm dc) dg1 (.slice d1a d1m d1c) dg2 (.slice d2a d2m d2c) dg3 (.slice d3a d3m d3c) (x0 : Int) (x1 : Int) (x2 : Int) (.slice qa qm qc)) 32 := (by simpa using S12.out.b7.set 11 (.slice qa qm qc)); obtain ⟨q0, q1, q2, q3, q4, q5, q6, q7, q8, q9, qa', qb'⟩ := dict_cells b11; have kb : Keeps w12 (w12.setCell ⟨g, 11, none⟩ (.slice qa qm qc)) [g] := (Keeps.refl _ _).setCell (.inr (by simp)) _; have B2f := S12.out.b2.keeps kb (by simp; omega); have KB := Lib.hid kb; clear kb b11))
        | (refine wpList_store_blk rfl 32 _ _ rfl w.heap.size (dictC did (.slice da dm dc) dg1 (.slice d1a d1m d1c) dg2 (.slice d2a d2m d2c) dg3 (.slice d3a d3m d3c) (x0 : Int) (x1 : Int) (x2 : Int) (.slice qa qm qc)) rfl rfl _ _ B2f dict_size rfl (by simp [Value.oneCell']) ?_; intro Wf bf kf))
      have hno : ∀ (i : Nat) (y : Int), zeroC[i]? ≠ some (.int .u8 y) := dictC_no8 0 0 0 0 0 0 0 nilV nilV nilV nilV nilV (fun y h => by cases h) (fun y h => by cases h) (fun y h => by cases h) (fun y h => by cases h) (fun y h => by cases h)
      have hdx : ∀ y, dx ≠ .int .u8 y := S12.out.x8
      have hnd : ∀ (i : Nat) (y : Int), (dictC did (.slice da dm dc) dg1 (.slice d1a d1m d1c) dg2 (.slice d2a d2m d2c) dg3 (.slice d3a d3m d3c) (x0 : Int) (x1 : Int) (x2 : Int) dx)[i]? ≠ some (.int .u8 y) := dictC_no8 _ _ _ _ _ _ _ _ _ _ _ _ (fun y h => by cases h) (fun y h => by cases h) (fun y h => by cases h) (fun y h => by cases h) hdx
      have hsz := S12.out.size
      rw [HRe.out]
      exact bodyPost_ret (v := .tuple #[.agg (dictC did (.slice da dm dc) dg1 (.slice d1a d1m d1c) dg2 (.slice d2a d2m d2c) dg3 (.slice d3a d3m d3c) (x0 : Int) (x1 : Int) (x2 : Int) (.slice qa qm qc)), .int .i64 0]) (res_cell_tmp rfl rfl rfl (load_dict bf rfl)) rfl ⟨(S12.out.kw.trans KB.out (fun j hj hlt => by simp at hj; omega)).trans kf (fun j hj hlt => by simp at hj; omega), _, _, _, _, _, rfl,
        (S12.out.rt.past S12.out.ft KB.out (by omega)).past S12.out.ft kf (by omega), (S12.out.r1.past S12.out.f1 KB.out (by omega)).past S12.out.f1 kf (by omega), (S12.out.r2.past S12.out.f2 KB.out (by omega)).past S12.out.f2 kf (by omega), (S12.out.r3.past S12.out.f3 KB.out (by omega)).past S12.out.f3 kf (by omega), (RR.out.past8 S12.out.b7 hnd KB.out).past8 B2f hno kf⟩


end Go.Proofs.YtcmagccfagijlaaGreat
