/-
  The stage's theorem on chains of an index: its walk. (Printed by mkH3.py.)
-/
import Derived.Test.YticlhaofmcajpaaX2
import Derived.Test.YticlhaofmcajpaaH1
import Derived.Test.YticlhaofmcajpaaH2
import Derived.Test.YticlhaofmcajpaaH4
import Derived.Test.YticlhaofmcajpaaHeld
import Derived.LoopIn
import Derived.Deep.LoopGhost
namespace Go.Proofs.Yticlhaofmcajpaa
set_option linter.unusedVariables false
set_option linter.unusedSimpArgs false
set_option linter.unusedSectionVars false
open Go.RowKit Go.Shelf

attribute [local go_sem] Oper.semAt_some

/-- Where nothing panics. -/
theorem wp_noPanic {c : Code} {P : Program} {Q : Exit → Act → World → Prop} {a : Act} {w : World} (h : c.wp P (fun e a w => (∀ ch, e ≠ .panic ch) ∧ Q e a w) a w) : c.wp P Q a w := Code.wp_mono (fun e a w q => q.2) h

/-- What stands through all of the law's rounds. -/
structure HSt (w : World) (H XB p o K : Nat) (b : List Int) (S3 S4 : List Nat) (bv : Value) (X : World) : Prop where
  kx : Keeps w X []
  bk : Blk X H #[.int .i64 (K : Int)] 3
  bb : Blk X (H + 1) #[bv] 22
  b8 : Blk X (H + 1 + 1) #[.bool false] 4
  bx : Blk X XB #[.pointer (some ⟨p, 0, none⟩)] 24
  ip : Idx X p K b S3
  io : Idx X o (K + 1) b S4
/-- All of it lies below L. -/
structure Low (w : World) (H XB : Nat) (S3 S4 : List Nat) (L : Nat) : Prop where
  w : w.heap.size ≤ L
  h : H + 2 < L
  x : XB < L
  s3 : ∀ z ∈ S3, z < L
  s4 : ∀ z ∈ S4, z < L
theorem HSt.keeps {w X Y : World} {H XB p o K L : Nat} {b : List Int} {S3 S4 S : List Nat} {bv : Value} (h : HSt w H XB p o K b S3 S4 bv X) (lo : Low w H XB S3 S4 L) (k : Keeps X Y S) (hS : ∀ z ∈ S, L ≤ z) : HSt w H XB p o K b S3 S4 bv Y := by
  have n : ∀ z, z < L → z ∉ S := fun z hz hm => by have := hS z hm; omega
  have := lo.h
  exact ⟨h.kx.trans k (fun z hz hlt => by have := hS z hz; have := lo.w; omega), h.bk.keeps k (n _ (by omega)), h.bb.keeps k (n _ (by omega)), h.b8.keeps k (n _ (by omega)), h.bx.keeps k (n _ lo.x), h.ip.keeps k (fun z hz => n _ (lo.s3 z hz)), h.io.keeps k (fun z hz => n _ (lo.s4 z hz))⟩
theorem HSt.below {w X Y : World} {H XB p o K L : Nat} {b : List Int} {S3 S4 : List Nat} {bv : Value} (h : HSt w H XB p o K b S3 S4 bv X) (lo : Low w H XB S3 S4 L) {B : Nat} (hb : Below B X Y) (hB : L ≤ B) : HSt w H XB p o K b S3 S4 bv Y :=
  h.keeps lo (below_keeps hb) (fun z hz => by have := (List.mem_filter.1 hz).2; simp at this; omega)
/-- What stands in the round at position n0, when k steps of its chain are over. -/
structure RS1 (w : World) (H XB p o K : Nat) (b : List Int) (S3 S4 : List Nat) (bv : Value) (ab IB PB G n n0 bl2 bt2 : Nat) (v2 : Value) (Lc L2 : List Int) (ds : List Nat) (k : Nat) (X : World) : Prop where
  st : HSt w H XB p o K b S3 S4 bv X
  ba : Blk X ab #[.int .i64 (n0 : Int)] 3
  bi : Blk X IB #[.slice (some ⟨G, 0, none⟩) n n] 37
  bp : Blk X PB #[.int .i64 (stepP Lc n0 k)] 3
  row : RowI X G n n (markL n Lc k)
  mks : Marks ds X
  bL2 : Blk X bl2 #[v2] 37
  bT2 : Blk X bt2 #[.int .i64 (n0 : Int)] 3
  rL2 : RdI .i64 X v2 L2
/-- All of it lies below M. -/
structure Low1 (w : World) (H XB : Nat) (S3 S4 : List Nat) (ab IB PB G bl2 bt2 : Nat) (v2 : Value) (ds : List Nat) (L M : Nat) : Prop where
  lo : Low w H XB S3 S4 L
  l : L ≤ M
  a : ab < M
  i : IB < M
  p : PB < M
  g : G < M
  l2 : bl2 < M
  t2 : bt2 < M
  v : ∀ ad n c, v2 = .slice (some ad) n c → 0 < n → ad.block < M
  d : ∀ z ∈ ds, z < M
theorem RS1.keeps {w X Y : World} {H XB p o K ab IB PB G n n0 bl2 bt2 k L M : Nat} {b Lc L2 : List Int} {S3 S4 ds S : List Nat} {bv v2 : Value} (h : RS1 w H XB p o K b S3 S4 bv ab IB PB G n n0 bl2 bt2 v2 Lc L2 ds k X) (lo : Low1 w H XB S3 S4 ab IB PB G bl2 bt2 v2 ds L M) (kk : Keeps X Y S) (hS : ∀ z ∈ S, M ≤ z) :
    RS1 w H XB p o K b S3 S4 bv ab IB PB G n n0 bl2 bt2 v2 Lc L2 ds k Y := by
  have n : ∀ z, z < M → z ∉ S := fun z hz hm => by have := hS z hm; omega
  exact ⟨h.st.keeps lo.lo kk (fun z hz => Nat.le_trans lo.l (hS z hz)), h.ba.keeps kk (n _ lo.a), h.bi.keeps kk (n _ lo.i), h.bp.keeps kk (n _ lo.p), h.row.keeps kk (n _ lo.g), h.mks.keeps kk (fun d hd => n _ (lo.d d hd)), h.bL2.keeps kk (n _ lo.l2), h.bT2.keeps kk (n _ lo.t2), h.rL2.keepsS kk (fun ad m c he h0 hm => n _ (lo.v ad m c he h0) hm)⟩
theorem RS1.below {w X Y : World} {H XB p o K ab IB PB G n n0 bl2 bt2 k L M : Nat} {b Lc L2 : List Int} {S3 S4 ds : List Nat} {bv v2 : Value} (h : RS1 w H XB p o K b S3 S4 bv ab IB PB G n n0 bl2 bt2 v2 Lc L2 ds k X) (lo : Low1 w H XB S3 S4 ab IB PB G bl2 bt2 v2 ds L M) {B : Nat} (hb : Below B X Y) (hB : M ≤ B) :
    RS1 w H XB p o K b S3 S4 bv ab IB PB G n n0 bl2 bt2 v2 Lc L2 ds k Y :=
  h.keeps lo (below_keeps hb) (fun z hz => by have := (List.mem_filter.1 hz).2; simp at this; omega)
theorem Marks.below {ds : List Nat} {X Y : World} {B : Nat} (h : Marks ds X) (hb : Below B X Y) (hd : ∀ d ∈ ds, d < B) : Marks ds Y :=
  h.keeps (below_keeps hb) (fun d hm hz => by have := (List.mem_filter.1 hz).2; simp at this; have := hd d hm; omega)
/-- The slots that the law's rounds find. -/
structure SlotsH (T : Array Value) (H XB o ab : Nat) : Prop where
  n : T.size = 236
  s2 : T.getD 2 undef = .pointer (some ⟨H, 0, none⟩)
  s3 : T.getD 3 undef = .pointer (some ⟨H + 1, 0, none⟩)
  s4 : T.getD 4 undef = .pointer (some ⟨H + 1 + 1, 0, none⟩)
  s5 : T.getD 5 undef = .pointer (some ⟨XB, 0, none⟩)
  s7 : T.getD 7 undef = .pointer (some ⟨o, 0, none⟩)
  s11 : T.getD 11 undef = .pointer (some ⟨ab, 0, none⟩)

set_option maxRecDepth 100000 in
set_option maxHeartbeats 8000000 in
theorem law_holds (k : Int) (b : List Int) (v : Value) (w : World) (hv : RdI .u8 w v b) (hb : ∀ x ∈ b, 0 ≤ x ∧ x ≤ 255) :
    Calls Try.prog 6 #[.int .i64 k, v] w (LawEnd w) := by
  obtain ⟨i0, hi0, hz0, hz1, hz2⟩ := info_parts Try.infoByte
  obtain ⟨A0, n, cp0, rfl, hnl, -⟩ := hv.form
  by_cases hbad : 120 < n ∨ k < 1 ∨ 7 < k
  · clear hv hnl hb
    have q2 := Blk.new ((w.alloc (.cells #[.int .i64 k] 3)).alloc (.cells #[.slice A0 n cp0] 22)) #[.bool false] 4
    have k0 : Keeps w (((w.alloc (.cells #[.int .i64 k] 3)).alloc (.cells #[.slice A0 n cp0] 22)).alloc (.cells #[.bool false] 4)) [] := (((Keeps.refl w []).alloc _).alloc _).alloc _
    simp only [World.size_alloc] at q2
    have WK := works_true (((w.alloc (.cells #[.int .i64 k] 3)).alloc (.cells #[.slice A0 n cp0] 22)).alloc (.cells #[.bool false] 4))
    rcases hbad with h1 | h1 | h1
    all_goals
      go_enter Try.func6, Try.ntmps6
      go_wp2_with (go_at_call 10; refine WK.mono ?_; rintro e w5 ⟨rfl, kk⟩; obtain ⟨c6, f6⟩ := (q2.keeps kk (by simp)).one)
      all_goals
        exact bodyPost_ret (v := .bool true) (res_cell Try.results6 rfl (Try.loadBool _ _ _ (World.cell?_setCell_same' _ _ _ (by rw [c6]; rfl)))) rfl (LawEnd.of_keeps ((k0.then kk).setCell (.inl (by dsimp only; omega)) _))
  have h1 : ¬ 120 < n := by omega
  have h2 : ¬ k < 1 := by omega
  have h3 : ¬ 7 < k := by omega
  obtain ⟨K, rfl⟩ := Int.eq_ofNat_of_zero_le (show 0 ≤ k by omega)
  have hK1 : 1 ≤ K := by omega
  have hK7 : K ≤ 7 := by omega
  have d1 : decide ((120 : Int) < (n : Int)) = false := decide_eq_false (by omega)
  have d2 : decide ((K : Int) < 1) = false := decide_eq_false (by omega)
  have d3 : decide ((7 : Int) < (K : Int)) = false := decide_eq_false (by omega)
  have hn3 : n ≤ 120 := by omega
  have HV := Lib.hid hv
  have HB := Lib.hid hb
  have HN := Lib.hid hnl
  clear hv hb hnl hbad h1 h2 h3
  have bk := ((Blk.new w #[.int .i64 (K : Int)] 3).alloc (.cells #[.slice A0 n cp0] 22)).alloc (.cells #[.bool false] 4)
  have bb := (Blk.new (w.alloc (.cells #[.int .i64 (K : Int)] 3)) #[.slice A0 n cp0] 22).alloc (.cells #[.bool false] 4)
  have b8 := Blk.new ((w.alloc (.cells #[.int .i64 (K : Int)] 3)).alloc (.cells #[.slice A0 n cp0] 22)) #[.bool false] 4
  have k0 : Keeps w (((w.alloc (.cells #[.int .i64 (K : Int)] 3)).alloc (.cells #[.slice A0 n cp0] 22)).alloc (.cells #[.bool false] 4)) [] := (((Keeps.refl w []).alloc _).alloc _).alloc _
  simp only [World.size_alloc] at bb b8
  refine calls_of_marks Try.func6 rfl ?_
  simp only [Try.ntmps6, List.size_toArray, List.length_cons, List.length_nil, Nat.reduceAdd, Nat.reduceSub, Array.replicate_succ, Array.replicate_zero, List.push_toArray, List.append_toArray, List.nil_append, List.cons_append]
  go_wp2_with fail
  generalize hW0 : (((w.alloc (.cells #[.int .i64 (K : Int)] 3)).alloc (.cells #[.slice A0 n cp0] 22)).alloc (.cells #[.bool false] 4)) = W0 at *
  have hs0 : W0.heap.size = w.heap.size + 3 := by rw [← hW0]; simp
  have HS0 := Lib.hid hs0
  clear hW0 hs0
  refine (new_yes K W0 hK1 (by omega)).mono ?_
  rintro e w1 ⟨p, S1, rfl, i1, l1, k1⟩
  replace bk := bk.keeps k1 (by simp)
  replace bb := bb.keeps k1 (by simp)
  replace b8 := b8.keeps k1 (by simp)
  replace k0 := k0.then k1
  have hs1 := k1.size
  have hlt1 : ∀ x ∈ S1, x < w1.heap.size := fun x hx => i1.lt x hx
  obtain ⟨c0, -⟩ := (bk.alloc (.cells #[.pointer (some ⟨p, 0, none⟩)] 24)).one
  go_wp2_with fail
  have bx := Blk.new w1 #[.pointer (some ⟨p, 0, none⟩)] 24
  replace i1 := i1.keep ((Keeps.refl w1 []).alloc (.cells #[.pointer (some ⟨p, 0, none⟩)] 24))
  replace bk := bk.alloc (.cells #[.pointer (some ⟨p, 0, none⟩)] 24)
  replace bb := bb.alloc (.cells #[.pointer (some ⟨p, 0, none⟩)] 24)
  replace b8 := b8.alloc (.cells #[.pointer (some ⟨p, 0, none⟩)] 24)
  replace k0 := k0.alloc (.cells #[.pointer (some ⟨p, 0, none⟩)] 24)
  have hx1 : (w1.alloc (.cells #[.pointer (some ⟨p, 0, none⟩)] 24)).heap.size = w1.heap.size + 1 := by simp
  generalize (w1.alloc (.cells #[.pointer (some ⟨p, 0, none⟩)] 24)) = w2 at *
  clear c0
  refine (new_yes (K + 1) w2 (by omega) (by omega)).mono ?_
  rintro e w3 ⟨o, S2, rfl, i2, l2, k2⟩
  replace i1 := i1.keep k2
  replace bk := bk.keeps k2 (by simp)
  replace bb := bb.keeps k2 (by simp)
  replace b8 := b8.keeps k2 (by simp)
  replace bx := bx.keeps k2 (by simp)
  replace k0 := k0.then k2
  have hs2 := k2.size
  have hlt2 : ∀ x ∈ S2, x < w3.heap.size := fun x hx => i2.lt x hx
  go_wp2_with fail
  refine wp_noPanic ?_
  have kd : Keeps w3 w3.drew [] := (Keeps.refl w3 []).drew
  replace i1 := i1.keep kd
  replace i2 := i2.keep kd
  replace bk := bk.keeps kd (by simp)
  replace b8 := b8.keeps kd (by simp)
  replace k0 := k0.then kd
  have hsd := kd.size
  refine wp_region_held_drew (S := (fun w' => Blk w' w1.heap.size #[.pointer (some ⟨p, 0, none⟩)] 24 ∧ Blk w' (w.heap.size + 1) #[.slice A0 n cp0] 22)) (by kernel_rfl) ⟨bx.drew, bb.drew⟩ (fun hHeld => ?_)
  refine takeL (i := 0) (v := ?_) rfl (by kernel_rfl) (by kernel_rfl) (by kernel_rfl) (fun _ _ _ h => (h.1 _ rfl).elim) (by rfl) ?_ (by assumption) ?_
  rotate_left
  · (intro w9 hSw; obtain ⟨q0, -⟩ := hSw.1.one; obtain ⟨q1, -⟩ := hSw.2.one; clear hSw; go_simp; (try with_reducible rfl))
  try simp only [Act.put, List.setIfInBounds_toArray, List.set_cons_zero, List.set_cons_succ]
  refine takeL (i := 1) (v := ?_) rfl (by kernel_rfl) (by kernel_rfl) (by kernel_rfl) (fun _ _ _ h => (h.1 _ rfl).elim) (by rfl) ?_ (by assumption) ?_
  rotate_left
  · (intro w9 hSw; obtain ⟨q0, -⟩ := hSw.1.one; obtain ⟨q1, -⟩ := hSw.2.one; clear hSw; go_simp; (try with_reducible rfl))
  try simp only [Act.put, List.setIfInBounds_toArray, List.set_cons_zero, List.set_cons_succ]
  refine takeL (i := 3) (v := ?_) rfl (by kernel_rfl) (by kernel_rfl) (by kernel_rfl) (fun _ _ _ h => (h.1 _ rfl).elim) (by rfl) ?_ (by assumption) ?_
  rotate_left
  · (intro w9 hSw; obtain ⟨q0, -⟩ := hSw.1.one; obtain ⟨q1, -⟩ := hSw.2.one; clear hSw; go_simp; (try with_reducible rfl))
  try simp only [Act.put, List.setIfInBounds_toArray, List.set_cons_zero, List.set_cons_succ]
  refine takeL (i := 4) (v := ?_) rfl (by kernel_rfl) (by kernel_rfl) (by kernel_rfl) (fun _ _ _ h => (h.1 _ rfl).elim) (by rfl) ?_ (by assumption) ?_
  rotate_left
  · (intro w9 hSw; obtain ⟨q0, -⟩ := hSw.1.one; obtain ⟨q1, -⟩ := hSw.2.one; clear hSw; go_simp; (try with_reducible rfl))
  try simp only [Act.put, List.setIfInBounds_toArray, List.set_cons_zero, List.set_cons_succ]
  refine callL (i := 2) rfl (by kernel_rfl) (fun Kont hK => ?_)
  go_simp
  refine (add_any p K [] b _ S1 _ i1 (HV.out.keeps k0) HB.out (by have := HN.out; simp; omega)).mono ?_
  rintro e w5 ⟨rfl, S3, i3, l3, k3⟩
  rw [List.nil_append] at i3
  have hs3 := k3.size
  have n3 : ∀ z, (z < W0.heap.size ∨ w1.heap.size ≤ z) → z ∉ S1 := fun z hz hm => by have := l1 z hm; have := hlt1 z hm; omega
  replace i2 := i2.keeps k3 (fun x hx hm => by have := l2 x hx; have := hlt1 x hm; omega)
  replace bk := bk.keeps k3 (n3 _ (by have := HS0.out; omega))
  replace b8 := b8.keeps k3 (n3 _ (by have := HS0.out; omega))
  replace k0 := k0.trans k3 (fun x hx hlt => by have := l1 x hx; have := HS0.out; omega)
  go_wp2_with fail
  refine hK.out _ _ ?_ (fun hHeld => ?_)
  · exact ⟨hHeld.1.keeps k3 (n3 _ (by omega)), hHeld.2.keeps k3 (n3 _ (by have := HS0.out; omega))⟩
  clear hK Kont
  refine callL (i := 5) rfl (by kernel_rfl) (fun Kont hK => ?_)
  go_simp
  refine (add_any o (K + 1) [] b _ S2 _ i2 (HV.out.keeps k0) HB.out (by have := HN.out; simp; omega)).mono ?_
  rintro e w6 ⟨rfl, S4, i4, l4, k4⟩
  rw [List.nil_append] at i4
  have hs4 := k4.size
  have n4 : ∀ z, z < w2.heap.size → z ∉ S2 := fun z hz hm => by have := l2 z hm; omega
  have hS3 : ∀ x ∈ S3, W0.heap.size ≤ x ∧ x < w5.heap.size ∧ x ≠ w1.heap.size ∧ x ∉ S2 := fun x hx => by
    have h9 := i3.lt x hx
    rcases l3 x hx with h | h
    · exact ⟨l1 x h, h9, by have := hlt1 x h; omega, fun hm => by have := l2 x hm; have := hlt1 x h; omega⟩
    · exact ⟨by omega, h9, by omega, fun hm => by have := hlt2 x hm; omega⟩
  replace i3 := i3.keeps k4 (fun x hx => (hS3 x hx).2.2.2)
  replace bk := bk.keeps k4 (n4 _ (by have := HS0.out; omega))
  replace b8 := b8.keeps k4 (n4 _ (by have := HS0.out; omega))
  replace k0 := k0.trans k4 (fun x hx hlt => by have := l2 x hx; have := HS0.out; omega)
  have hS4 : ∀ x ∈ S4, W0.heap.size ≤ x ∧ x < w6.heap.size ∧ x ≠ w1.heap.size := fun x hx => by
    have h9 := i4.lt x hx
    rcases l4 x hx with h | h
    · exact ⟨by have := l2 x h; omega, h9, by have := l2 x h; omega⟩
    · exact ⟨by omega, h9, by omega⟩
  go_wp2_with fail
  refine hK.out _ _ ?_ (fun hHeld => ?_)
  · exact ⟨hHeld.1.keeps k4 (n4 _ (by omega)), hHeld.2.keeps k4 (n4 _ (by have := HS0.out; omega))⟩
  clear hK Kont
  refine takeL (i := 6) (v := ?_) rfl (by kernel_rfl) (by kernel_rfl) (by kernel_rfl) (fun _ _ _ h => (h.1 _ rfl).elim) (by rfl) ?_ (by assumption) ?_
  rotate_left
  · (intro w9 hSw; obtain ⟨q0, -⟩ := hSw.1.one; obtain ⟨q1, -⟩ := hSw.2.one; clear hSw; go_simp; (try with_reducible rfl))
  try simp only [Act.put, List.setIfInBounds_toArray, List.set_cons_zero, List.set_cons_succ]
  refine takeL (i := 7) (v := ?_) rfl (by kernel_rfl) (by kernel_rfl) (by kernel_rfl) (fun _ _ _ h => (h.1 _ rfl).elim) (by rfl) ?_ (by assumption) ?_
  rotate_left
  · (intro w9 hSw; obtain ⟨q0, -⟩ := hSw.1.one; obtain ⟨q1, -⟩ := hSw.2.one; clear hSw; go_simp; (try with_reducible rfl))
  try simp only [Act.put, List.setIfInBounds_toArray, List.set_cons_zero, List.set_cons_succ]
  refine wpAnyH_done (by kernel_rfl) ?_ _
  refine ⟨by simp, ?_⟩
  obtain ⟨bx, bb⟩ := hHeld
  have st6 : HSt w w.heap.size w1.heap.size p o K b S3 S4 (.slice A0 n cp0) w6 := ⟨k0, bk, bb, b8, bx, i3, i4⟩
  have lo6 : Low w w.heap.size w1.heap.size S3 S4 w6.heap.size := ⟨k0.size, by have := b8.lt; omega, bx.lt, fun z hz => i3.lt z hz, fun z hz => i4.lt z hz⟩
  have hlow3 : ∀ z ∈ S3, w.heap.size + 2 < z := fun z hz => by have := (hS3 z hz).1; have := HS0.out; omega
  clear d1 d2 d3 HS0 l1 k1 hs1 hlt1 hx1 l2 k2 hs2 hlt2 kd i1 hsd l3 k3 hs3 n3 i2 l4 k4 hs4 n4 hS3 i3 bk b8 k0 hS4 bx bb i4 hlow3
  go_wp2_with (go_at_call 18; refine (num_any _ _).mono ?_; rintro e w' ⟨rfl, rfl⟩)
  have st7 := st6.keeps lo6 ((Keeps.refl w6 []).alloc (.cells #[.int .i64 0] 3)) (by simp)
  have ba7 := Blk.new w6 #[.int .i64 0] 3
  generalize hL : w6.heap.size = L at *
  have hL7 : (w6.alloc (.cells #[.int .i64 0] 3)).heap.size = L + 1 := by simp [hL]
  generalize hw7 : (w6.alloc (.cells #[.int .i64 0] 3)) = w7 at *
  clear st6 hw7 hL w6
  have LO := Lib.hid lo6
  generalize w1.heap.size = XB at *
  generalize hH : w.heap.size = H at *
  refine wp_loop_ghost (fun m a X => ∃ (n0 ab : Nat) (ds : List Nat), m = n + 1 - n0 ∧ n0 ≤ n + 1 - K ∧ SlotsH a.tmps H XB o ab ∧ a.defers = collectedL ds ∧ HSt w H XB p o K b S3 S4 (.slice A0 n cp0) X ∧ Blk X ab #[.int .i64 (n0 : Int)] 3 ∧ Marks ds X ∧ (∀ d ∈ ds, L ≤ d) ∧ L ≤ ab) (n + 1) ⟨0, L, [], rfl, Nat.zero_le _, ⟨rfl, rfl, rfl, rfl, rfl, rfl, rfl⟩, rfl, st7, ba7, Marks.nil, by simp, Nat.le_refl _⟩ ?_
  rintro m0 a X ⟨n0, ab, ds, rfl, hn0, sl, hdf, st, ba, mk, hds, hab⟩
  clear st7 ba7 hL7
  obtain ⟨T, dl⟩ := a
  dsimp only at sl hdf
  subst hdf
  obtain ⟨sn, g2, g3, g4, g5, g7, g11⟩ := sl
  obtain ⟨u, rfl, hu⟩ := lit236 T sn
  rw [hu] at g2 g3 g4 g5 g7 g11
  rw [g2, g3, g4, g5, g7, g11]
  clear g2 g3 g4 g5 g7 g11 hu sn
  obtain ⟨a0, -⟩ := ba.one
  obtain ⟨k0, -⟩ := st.bk.one
  obtain ⟨bb0, -⟩ := st.bb.one
  by_cases hlt : n0 + K ≤ n
  · have hle : (n0 : Int) + (K : Int) ≤ (n : Int) := by omega
    go_wp2_with fail
    refine wp_noPanic ?_
    have kd : Keeps X X.drew [] := (Keeps.refl X []).drew
    replace st := st.keeps LO.out kd (by simp)
    replace ba := ba.drew
    replace mk := mk.keeps kd (by simp)
    clear a0 k0 bb0
    refine wp_region_held_drew (S := (fun w' => Blk w' XB #[.pointer (some ⟨p, 0, none⟩)] 24 ∧ Blk w' ab #[.int .i64 (n0 : Int)] 3)) (by kernel_rfl) ⟨st.bx, ba⟩ (fun hHeld => ?_)
    generalize X.drew = X0 at *
    refine takeL (i := 0) (v := ?_) rfl (by kernel_rfl) (by kernel_rfl) (by kernel_rfl) (fun _ _ _ h => (h.1 _ rfl).elim) (by rfl) ?_ (by assumption) ?_
    rotate_left
    · (intro w9 hSw; obtain ⟨q0, -⟩ := hSw.1.one; obtain ⟨q1, -⟩ := hSw.2.one; clear hSw; go_simp; (try with_reducible rfl))
    try simp only [Act.put, List.setIfInBounds_toArray, List.set_cons_zero, List.set_cons_succ]
    refine takeL (i := 1) (v := ?_) rfl (by kernel_rfl) (by kernel_rfl) (by kernel_rfl) (fun _ _ _ h => (h.1 _ rfl).elim) (by rfl) ?_ (by assumption) ?_
    rotate_left
    · (intro w9 hSw; obtain ⟨q0, -⟩ := hSw.1.one; obtain ⟨q1, -⟩ := hSw.2.one; clear hSw; go_simp; (try with_reducible rfl))
    try simp only [Act.put, List.setIfInBounds_toArray, List.set_cons_zero, List.set_cons_succ]
    refine takeL (i := 3) (v := ?_) rfl (by kernel_rfl) (by kernel_rfl) (by kernel_rfl) (fun _ _ _ h => (h.1 _ rfl).elim) (by rfl) ?_ (by assumption) ?_
    rotate_left
    · (intro w9 hSw; obtain ⟨q0, -⟩ := hSw.1.one; obtain ⟨q1, -⟩ := hSw.2.one; clear hSw; go_simp; (try with_reducible rfl))
    try simp only [Act.put, List.setIfInBounds_toArray, List.set_cons_zero, List.set_cons_succ]
    refine takeL (i := 4) (v := ?_) rfl (by kernel_rfl) (by kernel_rfl) (by kernel_rfl) (fun _ _ _ h => (h.1 _ rfl).elim) (by rfl) ?_ (by assumption) ?_
    rotate_left
    · (intro w9 hSw; obtain ⟨q0, -⟩ := hSw.1.one; obtain ⟨q1, -⟩ := hSw.2.one; clear hSw; go_simp; (try with_reducible rfl))
    try simp only [Act.put, List.setIfInBounds_toArray, List.set_cons_zero, List.set_cons_succ]
    refine callL (i := 2) rfl (by kernel_rfl) (fun Kont hK => ?_)
    go_simp
    refine (chain_any p K b S3 n0 _ st.ip).mono ?_
    rintro e w1 ⟨bl, bt, ad, cp, rfl, bL, bT, rL, hfr, hbl, hbt, kc⟩
    replace st := st.keeps LO.out kc (by simp)
    replace ba := ba.keeps kc (by simp)
    replace mk := mk.keeps kc (by simp)
    go_wp2_with fail
    refine hK.out _ _ ?_ (fun hHeld => ?_)
    · exact ⟨st.bx, ba⟩
    clear hK Kont
    refine callL (i := 5) rfl (by kernel_rfl) (fun Kont hK => ?_)
    go_simp
    refine (chain_any o (K + 1) b S4 n0 _ st.io).mono ?_
    rintro e w2 ⟨bl2, bt2, ad2, cp2, rfl, bL2, bT2, rL2, hfr2, hbl2, hbt2, kc2⟩
    replace st := st.keeps LO.out kc2 (by simp)
    replace ba := ba.keeps kc2 (by simp)
    replace mk := mk.keeps kc2 (by simp)
    replace bL := bL.keeps kc2 (by simp)
    replace bT := bT.keeps kc2 (by simp)
    replace rL := rL.keeps kc2
    go_wp2_with fail
    refine hK.out _ _ ?_ (fun hHeld => ?_)
    · exact ⟨st.bx, ba⟩
    clear hK Kont
    refine takeL (i := 6) (v := ?_) rfl (by kernel_rfl) (by kernel_rfl) (by kernel_rfl) (fun _ _ _ h => (h.1 _ rfl).elim) (by rfl) ?_ (by assumption) ?_
    rotate_left
    · (intro w9 hSw; obtain ⟨q0, -⟩ := hSw.1.one; obtain ⟨q1, -⟩ := hSw.2.one; clear hSw; go_simp; (try with_reducible rfl))
    try simp only [Act.put, List.setIfInBounds_toArray, List.set_cons_zero, List.set_cons_succ]
    refine takeL (i := 7) (v := ?_) rfl (by kernel_rfl) (by kernel_rfl) (by kernel_rfl) (fun _ _ _ h => (h.1 _ rfl).elim) (by rfl) ?_ (by assumption) ?_
    rotate_left
    · (intro w9 hSw; obtain ⟨q0, -⟩ := hSw.1.one; obtain ⟨q1, -⟩ := hSw.2.one; clear hSw; go_simp; (try with_reducible rfl))
    try simp only [Act.put, List.setIfInBounds_toArray, List.set_cons_zero, List.set_cons_succ]
    refine wpAnyH_done (by kernel_rfl) ?_ _
    refine ⟨by simp, ?_⟩
    obtain ⟨Lc, hLc⟩ : ∃ Lc, refChain K b (n0 : Int) = Lc := ⟨_, rfl⟩
    obtain ⟨Ld, hLd⟩ : ∃ Ld, refChain (K + 1) b (n0 : Int) = Ld := ⟨_, rfl⟩
    have hlc : Lc.length ≤ 200 := by have := refChain_len K b n0; rw [hLc] at this; unfold nk at this; have := HN.out; omega
    have hld : Ld.length ≤ 200 := by have := refChain_len (K + 1) b n0; rw [hLd] at this; unfold nk at this; have := HN.out; omega
    rw [hLc] at bL rL
    rw [hLd] at bL2 rL2
    have HLC := Lib.hid hLc
    have HLD := Lib.hid hLd
    have HLN := Lib.hid (show Lc.length ≤ 200 ∧ Ld.length ≤ 200 from ⟨hlc, hld⟩)
    obtain ⟨w8, hmk, row8, k8⟩ := make_listH n (by omega) w2
    have lrow := row8.lt
    have hs8 := k8.size
    have hl2w := bL2.lt
    have hbtw := bT.lt
    have hbt2w := bT2.lt
    have hdw : ∀ d ∈ ds, d < w2.heap.size := fun d hd => mk.lt hd
    have habw := ba.lt
    have hXL : L ≤ w2.heap.size := by have := habw; omega
    have hv2w : ∀ ad m c, Value.slice ad2 Ld.length cp2 = .slice (some ad) m c → 0 < m → ad.block < w2.heap.size := fun ad m c he h0 => by cases he; exact (hfr2 _ rfl).2
    have hv1w : ∀ a, ad = some a → a.block < w2.heap.size := fun a ha => by have := (hfr a ha).2; have := kc2.size; omega
    have hbbw := st.bb
    replace st := st.keeps LO.out k8 (by simp)
    replace ba := ba.keeps k8 (by simp)
    replace mk := mk.keeps k8 (by simp)
    replace bL := bL.keeps k8 (by simp)
    replace bT := bT.keeps k8 (by simp)
    replace rL := rL.keeps k8
    replace bL2 := bL2.keeps k8 (by simp)
    replace bT2 := bT2.keeps k8 (by simp)
    replace rL2 := rL2.keeps k8
    have k9 : Keeps w8 (w8.alloc (.cells #[.slice (some ⟨w2.heap.size, 0, none⟩) n n] 37)) [] := (Keeps.refl w8 []).alloc _
    have k10 : Keeps w8 ((w8.alloc (.cells #[.slice (some ⟨w2.heap.size, 0, none⟩) n n] 37)).alloc (.cells #[.int .i64 (n0 : Int)] 3)) [] := k9.alloc _
    have hs10 : ((w8.alloc (.cells #[.slice (some ⟨w2.heap.size, 0, none⟩) n n] 37)).alloc (.cells #[.int .i64 (n0 : Int)] 3)).heap.size = w8.heap.size + 2 := by simp
    obtain ⟨bb0, -⟩ := hbbw.one
    obtain ⟨a0, -⟩ := (ba.keeps k9 (by simp)).one
    go_wp2_with fail
    clear a0 bb0 hbbw
    have row10 := row8.keeps k10 (by simp)
    rw [← markL_zero n Lc] at row10
    have bi10 := (Blk.new w8 #[.slice (some ⟨w2.heap.size, 0, none⟩) n n] 37).alloc (.cells #[.int .i64 (n0 : Int)] 3)
    have bp10 := Blk.new (w8.alloc (.cells #[.slice (some ⟨w2.heap.size, 0, none⟩) n n] 37)) #[.int .i64 (n0 : Int)] 3
    rw [World.size_alloc] at bp10
    have rs0 : RS1 w H XB p o K b S3 S4 (.slice A0 n cp0) ab w8.heap.size (w8.heap.size + 1) w2.heap.size n n0 bl2 bt2 (.slice ad2 Ld.length cp2) Lc Ld ds 0 ((w8.alloc (.cells #[.slice (some ⟨w2.heap.size, 0, none⟩) n n] 37)).alloc (.cells #[.int .i64 (n0 : Int)] 3)) :=
      ⟨st.keeps LO.out k10 (by simp), ba.keeps k10 (by simp), bi10, bp10, row10, mk.keeps k10 (by simp), bL2.keeps k10 (by simp), bT2.keeps k10 (by simp), rL2.keeps k10⟩
    have lo1 : Low1 w H XB S3 S4 ab w8.heap.size (w8.heap.size + 1) w2.heap.size bl2 bt2 (.slice ad2 Ld.length cp2) ds L (w8.heap.size + 2) :=
      ⟨LO.out, by omega, by omega, by omega, by omega, by omega, by omega, by omega, fun ad m c he h0 => by have := hv2w ad m c he h0; omega, fun z hz => by have := hdw z hz; omega⟩
    have LO1 := Lib.hid lo1
    have bL1 := bL.keeps k10 (by simp)
    have bT1 := bT.keeps k10 (by simp)
    have rL1 := rL.keeps k10
    have hcb : ∀ x ∈ Lc, 0 ≤ x ∧ x < (n0 : Int) := by rw [← hLc]; exact chain_bd
    have HCB := Lib.hid hcb
    have HV1W := Lib.hid hv1w
    have HV2W := Lib.hid hv2w
    clear bi10 bp10 row10 st ba mk bL2 bT2 rL2 bL bT rL k9 k10 row8 k8 hmk hfr hfr2 kc kc2 kd hcb hv1w hv2w hld lo1
    generalize ((w8.alloc (.cells #[.slice (some ⟨w2.heap.size, 0, none⟩) n n] 37)).alloc (.cells #[.int .i64 (n0 : Int)] 3)) = WR at *
    obtain ⟨G, hG⟩ : ∃ G, G = w2.heap.size := ⟨_, rfl⟩
    obtain ⟨IB, hIB⟩ : ∃ G, G = w8.heap.size := ⟨_, rfl⟩
    rw [← hG, ← hIB] at rs0 LO1
    rw [← hIB] at hs10 hs8 lrow
    rw [← hG] at hs8 hl2w hbtw hbt2w hdw habw hXL lrow
    rw [← hIB]
    have HV1W' : Hid (∀ a, ad = some a → a.block < G) := by rw [hG]; exact HV1W.out
    have HV2W' : Hid (∀ ad m c, Value.slice ad2 Ld.length cp2 = .slice (some ad) m c → 0 < m → ad.block < G) := by rw [hG]; exact HV2W.out
    have HLL := Lib.hid (show L ≤ G ∧ ab < G ∧ bl2 < G ∧ bt2 < G ∧ G < IB ∧ (∀ d ∈ ds, d < G) ∧ WR.heap.size = IB + 2 from ⟨hXL, habw, hl2w, hbt2w, lrow, hdw, hs10⟩)
    clear HV1W HV2W hG hIB
    refine range_P (gf := 35) (lb := #[.pointer (some ⟨bl, 0, none⟩), .pointer (some ⟨bt, 0, none⟩)]) rfl (enters_of Try.func35 (by kernel_rfl) rfl)
      (chain2 bl bt ad Lc.length cp Lc n0 WR bL1 bT1 rL1 (by omega) HCB.out (by omega)) [IB + 1, G] ?hC ?hfine (fun _ => rfl)
      (fun pre X => ∃ k : Nat, pre = upto (itemC Lc n0) k ∧ k ≤ Lc.length ∧ RS1 w H XB p o K b S3 S4 (.slice A0 n cp0) ab IB (IB + 1) G n n0 bl2 bt2 (.slice ad2 Ld.length cp2) Lc Ld ds k X)
      (fun _ _ _ => False) ?hI ?hIx ?h0 ?hround ?hdone ?hstop
    case hC =>
      intro x hx
      simp only [List.mem_cons, List.not_mem_nil, or_false] at hx
      rcases hx with rfl | rfl
      · exact ⟨by omega, fun h0 a ha => by have := HV1W'.out a ha; omega, by omega⟩
      · exact ⟨by omega, fun h0 a ha => by have := HV1W'.out a ha; omega, by omega⟩
    case hfine => exact ⟨fun h0 a ha => by have := HV1W'.out a ha; omega, by omega⟩
    case hI =>
      rintro s A B' ⟨k, h1, h2, h4⟩ hab'
      exact ⟨k, h1, h2, h4.below LO1.out hab' (by omega)⟩
    case hIx => exact fun c s A B h _ => h
    case h0 => exact ⟨0, rfl, Nat.zero_le _, rs0⟩
    case hstop => exact fun D c pre W _ _ h _ => h.elim
    case hround =>
      rintro l' pre x W2 hle2 hlt2 ⟨k, rfl, hk, rs⟩ hsp
      obtain ⟨hkl, hxx⟩ := upto_next hsp
      obtain ⟨y, hx⟩ : ∃ y, Lc[k]? = some y := ⟨_, List.getElem?_eq_getElem hkl⟩
      have hic : itemC Lc n0 k = (y, (n0 : Int) - y) := by simp [itemC, hx]
      rw [hic] at hxx
      subst hxx
      obtain ⟨p1, p2, p3, p4, p5, p6, p7, -⟩ := chain_steps k n0 y HLC.out hx
      gi_wp2
      refine ⟨Keeps.refl W2 _, fun W3 hT => ?_⟩
      have rs3 := rs.below LO1.out (hT.below (B := IB + 2) (by omega)) (Nat.le_refl _)
      obtain ⟨x0, -⟩ := rs3.st.bx.one
      obtain ⟨pb0, -⟩ := rs3.bp.one
      have hpv := previous_any p K b S3 (stepP Lc n0 k) W3 rs3.st.ip
      rw [p1, optV_some] at hpv
      have HPV := Lib.hid hpv
      obtain ⟨m, rfl⟩ := Int.eq_ofNat_of_zero_le p2
      obtain ⟨Q, hQ⟩ : ∃ Q : Nat, stepP Lc n0 k = (Q : Int) := Int.eq_ofNat_of_zero_le (by omega)
      rw [hQ] at pb0 p3 p7 HPV
      have hQn : Q ≤ n0 := by
        cases k with
        | zero => simp [stepP] at hQ; omega
        | succ k =>
          obtain ⟨z, hz⟩ : ∃ z, Lc[k]? = some z := ⟨_, List.getElem?_eq_getElem (by omega)⟩
          have h8 := (HCB.out z (List.mem_of_getElem? hz)).2
          simp [stepP, hz] at hQ
          omega
      have hmQ : m < Q := by omega
      have hmQi : (m : Int) < (Q : Int) := by omega
      obtain ⟨bq, oq, rfl, hbq, -⟩ := (HV.out.keeps rs3.st.kx).addr (by omega)
      have hcapb := (HV.out.keeps rs3.st.kx).cap
      have HRB := Lib.hid (fun w9 (k9 : Keeps W3 w9 []) => (HV.out.keeps rs3.st.kx).keeps k9)
      have hkl1 : (keyAt K b m).length = K := keyAt_len (by have := HN.out; omega)
      have hkl2 : (keyAt K b n0).length = K := keyAt_len (by have := HN.out; omega)
      have p6' : pad (keyAt K b m) = pad (keyAt K b n0) := by simpa only [Int.toNat_natCast] using p6
      have hkeq := pad_inj (hkl1.trans hkl2.symm) p6'
      have HST : Hid (∀ (z : Nat) (w9 : World), Keeps W3 w9 [] → z + K ≤ n → (convert 22 9 (.slice (some ⟨bq, oq + z, none⟩) K (cp0 - z))).run Try.prog w9 = .ok (.string (strOfNums (keyAt K b z))) w9) := fun z w9 k9 hz =>
        str_of ((HRB.out w9 k9).piece (p := z) (q := K) hz (cp0 - z) (by omega)) Try.underlying22 Try.underlying5 Try.underlying9
      obtain ⟨a0, -⟩ := rs3.ba.one
      obtain ⟨k0, -⟩ := rs3.st.bk.one
      obtain ⟨bb0, -⟩ := rs3.st.bb.one
      obtain ⟨SK, hSK⟩ : ∃ SK, strOfNums (keyAt K b n0) = SK := ⟨_, rfl⟩
      have c1 : ∀ q, (convert 22 9 (.slice (some ⟨bq, oq + m, none⟩) K (cp0 - m))).run Try.prog (W3.drewN q) = .ok (.string SK) (W3.drewN q) := fun q => by
        have := HST.out m (W3.drewN q) ((Keeps.refl W3 []).drewN q) (by omega)
        rw [hkeq, hSK] at this
        exact this
      have c2 : ∀ q, (convert 22 9 (.slice (some ⟨bq, oq + n0, none⟩) K (cp0 - n0))).run Try.prog (W3.drewN q) = .ok (.string SK) (W3.drewN q) := fun q => by
        have := HST.out n0 (W3.drewN q) ((Keeps.refl W3 []).drewN q) (by omega)
        rw [hSK] at this
        exact this
      have e1 : ¬ ((m : Int) < 0) := by omega
      have e2 : decide ((Q : Int) ≤ (m : Int)) = false := by simp; omega
      obtain ⟨D, hD⟩ : ∃ D : Int, (n0 : Int) - (m : Int) = D := ⟨_, rfl⟩
      obtain ⟨Sm, hSm⟩ : ∃ D : Int, (m : Int) + (K : Int) = D := ⟨_, rfl⟩
      obtain ⟨Sn, hSn⟩ : ∃ D : Int, (n0 : Int) + (K : Int) = D := ⟨_, rfl⟩
      have m1 : decide ((m : Int) < 0) = false := by simp
      have m2 : decide (Q ≤ m) = false := by simp; omega
      have m3 : IntKind.i64.wrap D = D := by simp [IntKind.wrap, IntKind.signed, IntKind.bits]; omega
      have m4 : IntKind.i64.wrap Sm = Sm := by simp [IntKind.wrap, IntKind.signed, IntKind.bits]; omega
      have m5 : IntKind.i64.wrap Sn = Sn := by simp [IntKind.wrap, IntKind.signed, IntKind.bits]; omega
      have f1 : ∀ w9, (Instr.slice 22 (.slice (some ⟨bq, oq, none⟩) n cp0) (some (.int .i64 (m : Int))) (some (.int .i64 Sm)) none).run Try.prog w9 = .ok (.slice (some ⟨bq, oq + m, none⟩) K (cp0 - m)) w9 := fun w9 => by
        have := run_slice2 (P := Try.prog) Try.underlying22 hi0 hz1 (b := bq) (o := oq) (n := n) (c := cp0) (i := m) (j := m + K) rfl (y := Sm) (by omega) (by omega) (by omega) (by omega) w9
        rwa [Nat.add_sub_cancel_left] at this
      have f2 : ∀ w9, (Instr.slice 22 (.slice (some ⟨bq, oq, none⟩) n cp0) (some (.int .i64 (n0 : Int))) (some (.int .i64 Sn)) none).run Try.prog w9 = .ok (.slice (some ⟨bq, oq + n0, none⟩) K (cp0 - n0)) w9 := fun w9 => by
        have := run_slice2 (P := Try.prog) Try.underlying22 hi0 hz1 (b := bq) (o := oq) (n := n) (c := cp0) (i := n0) (j := n0 + K) rfl (y := Sn) (by omega) (by omega) (by omega) (by omega) w9
        rwa [Nat.add_sub_cancel_left] at this
      have P7 := Lib.hid p7
      have P6 := Lib.hid p6
      have HQ := Lib.hid hQ
      have HX := Lib.hid hx
      have HIC := Lib.hid hic
      have HKEQ := Lib.hid hkeq
      have HSK := Lib.hid hSK
      have RS3 := Lib.hid rs3
      have QM3 := Lib.hid (show m < Q ∧ Q ≤ n0 from ⟨hmQ, hQn⟩)
      clear p1 p2 p3 p4 p5 p6 p7 hQ hx hic hkeq hSK hpv hsp hT rs
      clear hkl1 hkl2 p6'
      gi_wp2_with (refine ⟨trivial, ?_⟩; gi_at_call 15; refine (calls_in HPV.out).mono ?_; rintro e w1 ⟨rfl, rfl⟩)
      refine region_in_round (by kernel_rfl) (by kernel_rfl) (by kernel_rfl) ?_
      repeat (any_goals (first | go_big_quiet_step (fail) | quiet_step (fail)))
      refine wpQuiet_nil ?_
      intro _ hw'
      obtain ⟨nq, hw''⟩ := hw'
      subst hw''
      clear c1 e1 e2 m1 m2 m3 m4 f1
      have hmB : (m : Int) < (n : Int) := by omega
      have hKn : (Q : Int) ≤ (n0 : Int) := by omega
      gi_wp2
      gi_loopw [20] (fun s20 wr => ∃ j nd : Nat, m + 1 ≤ j ∧ j ≤ Q ∧ s20 = .int .i64 (j : Int) ∧ wr = W3.drewN nd) (fun s20 _ => Q - (intOf s20).toNat)
      case atStart => exact ⟨m + 1, nq, Nat.le_refl _, by omega, by simp, rfl⟩
      case round =>
        obtain ⟨j, nd, hj1, hj2, rfl, rfl⟩ := hrel
        by_cases hjQ : j < Q
        · have hjQi : (j : Int) < (Q : Int) := by omega
          obtain ⟨SJ, hSJ⟩ : ∃ SJ, strOfNums (keyAt K b j) = SJ := ⟨_, rfl⟩
          have hne : ¬ SJ = SK := fun he => by
            rw [← hSJ, ← HSK.out] at he
            have h9 := strOfNums_inj (keyAt_bytes HB.out) (keyAt_bytes HB.out) he
            have h8 := P7.out j (by omega) (by omega)
            rw [h9] at h8
            exact h8 (by simp)
          have hnd : (SJ.toList == SK.toList) = false := str_ne hne
          obtain ⟨Sj, hSj⟩ : ∃ D : Int, (j : Int) + (K : Int) = D := ⟨_, rfl⟩
          have m4 : IntKind.i64.wrap Sj = Sj := by simp [IntKind.wrap, IntKind.signed, IntKind.bits]; omega
          have f1 : ∀ w9, (Instr.slice 22 (.slice (some ⟨bq, oq, none⟩) n cp0) (some (.int .i64 (j : Int))) (some (.int .i64 Sj)) none).run Try.prog w9 = .ok (.slice (some ⟨bq, oq + j, none⟩) K (cp0 - j)) w9 := fun w9 => by
            have := run_slice2 (P := Try.prog) Try.underlying22 hi0 hz1 (b := bq) (o := oq) (n := n) (c := cp0) (i := j) (j := j + K) rfl (y := Sj) (by omega) (by omega) (by omega) (by omega) w9
            rwa [Nat.add_sub_cancel_left] at this
          have c1 : ∀ q, (convert 22 9 (.slice (some ⟨bq, oq + j, none⟩) K (cp0 - j))).run Try.prog ((W3.drewN nd).drewN q) = .ok (.string SJ) ((W3.drewN nd).drewN q) := fun q => by
            have := HST.out j ((W3.drewN nd).drewN q) (((Keeps.refl W3 []).drewN nd).drewN q) (by omega)
            rw [hSJ] at this
            exact this
          have c2' : ∀ q, (convert 22 9 (.slice (some ⟨bq, oq + n0, none⟩) K (cp0 - n0))).run Try.prog ((W3.drewN nd).drewN q) = .ok (.string SK) ((W3.drewN nd).drewN q) := fun q => by
            have := HST.out n0 ((W3.drewN nd).drewN q) (((Keeps.refl W3 []).drewN nd).drewN q) (by omega)
            rw [HSK.out] at this
            exact this
          have c1'' : ∀ q, (convert 22 9 (.slice (some ⟨bq, oq + j, none⟩) K (cp0 - j))).run Try.prog (W3.drewN q) = .ok (.string SJ) (W3.drewN q) := fun q => by
            have := HST.out j (W3.drewN q) ((Keeps.refl W3 []).drewN q) (by omega)
            rw [hSJ] at this
            exact this
          have HJ := Lib.hid (show m + 1 ≤ j ∧ j < Q from ⟨hj1, hjQ⟩)
          clear hSJ
          gi_wp2
          refine region_in_round (by kernel_rfl) (by kernel_rfl) (by kernel_rfl) ?_
          repeat (any_goals (first | go_big_quiet_step (fail) | quiet_step (fail)))
          refine wpQuiet_nil ?_
          intro _ hw'
          obtain ⟨nq2, hw''⟩ := hw'
          subst hw''
          gi_wp2
          go_roundw
          case rel => exact ⟨j + 1, nd + nq2, by omega, by omega, by go_num, (by first | rfl | trivial | rw [World.drewN_drewN])⟩
          case measure => simp [intOf]; omega
        · have : j = Q := by omega
          subst this
          have hjj : ¬ ((j : Int) < (j : Int)) := by omega
          have rs5 : RS1 w H XB p o K b S3 S4 (.slice (some ⟨bq, oq, none⟩) n cp0) ab IB (IB + 1) G n n0 bl2 bt2 (.slice ad2 Ld.length cp2) Lc Ld ds k (W3.drewN nd) := RS3.out.keeps LO1.out ((Keeps.refl W3 []).drewN nd) (by simp)
          obtain ⟨pb1, pf1⟩ := rs5.bp.one
          rw [HQ.out] at pb1
          obtain ⟨ib1, -⟩ := rs5.bi.one
          obtain ⟨v0, hv0⟩ : ∃ v0, (markL n Lc k)[m]? = some v0 := ⟨_, List.getElem?_eq_getElem (by rw [markL_len]; omega)⟩
          have rc := rs5.row.at hv0
          have rf := rs5.row.frozen m
          have hmc := rs5.row.cap
          have hGP : ¬ G = IB + 1 := by omega
          clear c2 hv0
          generalize hW5 : W3.drewN nd = W5 at *
          gi_wp2
          obtain ⟨q1, q2, q3, q4, q5, q6, -⟩ := HLL.out
          have kw5 : Keeps W3 W5 [IB + 1, G] := by rw [← hW5]; exact (Keeps.refl W3 _).drewN nd
          have k4 : Keeps W5 ((W5.setCell ⟨IB + 1, 0, none⟩ (.int .i64 (m : Int))).setCell ⟨G, m, none⟩ (.int .i64 1)) [IB + 1, G] := ((Keeps.refl W5 _).setCell (.inr (by simp)) _).setCell (.inr (by simp)) _
          have k5 : Keeps W5 (W5.setCell ⟨IB + 1, 0, none⟩ (.int .i64 (m : Int))) [IB + 1] := (Keeps.refl W5 _).setCell (.inr (by simp)) _
          have nn : ∀ z, z < G → z ∉ [IB + 1, G] := fun z hz hm => by simp at hm; omega
          have hstp : stepP Lc n0 (k + 1) = (m : Int) := by simp [stepP, HX.out]
          have hrow := (rs5.row.keeps k5 (by simp; omega)).set m 1
          have hmk1 : markL n Lc (k + 1) = (markL n Lc k).set m 1 := by rw [markL_next HX.out]; simp
          rw [← hmk1] at hrow
          have hbp := (rs5.bp.set 0 (.int .i64 (m : Int))).setOther (a := ⟨G, m, none⟩) (by dsimp only; omega) (.int .i64 1)
          refine ⟨kw5.trans k4 (fun x hx _ => hx), k + 1, by rw [upto_succ, HIC.out, hD], hkl, ?_⟩
          exact ⟨rs5.st.keeps LO.out k4 (fun z hz => by simp at hz; omega), rs5.ba.keeps k4 (nn _ q2), rs5.bi.keeps k4 (by simp; omega), by rw [hstp]; simpa using hbp, hrow, rs5.mks.keeps k4 (fun d hd => nn _ (q6 d hd)), rs5.bL2.keeps k4 (nn _ q3), rs5.bT2.keeps k4 (nn _ q4), rs5.rL2.keepsS k4 (fun a z c he h0 hm => nn _ (HV2W'.out a z c he h0) hm)⟩
    case hdone =>
      rintro D xs W1 hD hS ⟨k, h1, h2, rs⟩ hKD
      have hkS : k = Lc.length := by
        rw [hS] at h1
        simpa [upto_length] using (congrArg List.length h1).symm
      subst hkS
      clear h1 h2 hS
      have hpv := previous_any p K b S3 (stepP Lc n0 Lc.length) W1 rs.st.ip
      rw [chain_end HLC.out, optV_none] at hpv
      have HPV := Lib.hid hpv
      obtain ⟨x0, -⟩ := rs.st.bx.one
      obtain ⟨pb0, -⟩ := rs.bp.one
      have hmk : Marks (D :: ds) W1 := rs.mks.cons hKD (fun d hd => by have := HLL.out.2.2.2.2.2.1 d hd; have := HLL.out; omega)
      have MK := Lib.hid hmk
      have RS := Lib.hid rs
      have hD2 : L ≤ D := by have := HLL.out; omega
      clear hpv hKD
      generalize stepP Lc n0 Lc.length = SP at *
      go_wp2_with (go_at_call 15; refine HPV.out.mono ?_; rintro e w1 ⟨rfl, rfl⟩)
      have hcb2 : ∀ x ∈ Ld, 0 ≤ x ∧ x < (n0 : Int) := by rw [← HLD.out]; exact chain_bd
      have HCB2 := Lib.hid hcb2
      have hW1 : IB + 2 < W1.heap.size := by have := HLL.out; have := MK.out.lt (d := D) (by simp); omega
      have hlen2 := HLN.out.2
      clear hcb2 x0 pb0
      refine range_P (gf := 35) (lb := #[.pointer (some ⟨bl2, 0, none⟩), .pointer (some ⟨bt2, 0, none⟩)]) rfl (enters_of Try.func35 (by kernel_rfl) rfl)
        (chain2 bl2 bt2 ad2 Ld.length cp2 Ld n0 W1 RS.out.bL2 RS.out.bT2 RS.out.rL2 (by omega) HCB2.out (by omega)) [] (by simp) ?hfine2 (fun _ => rfl)
        (fun pre X => ∃ k : Nat, pre = upto (itemC Ld n0) k ∧ k ≤ Ld.length ∧ RS1 w H XB p o K b S3 S4 (.slice A0 n cp0) ab IB (IB + 1) G n n0 bl2 bt2 (.slice ad2 Ld.length cp2) Lc Ld ds Lc.length X ∧ Marks (D :: ds) X)
        (fun _ _ _ => False) ?hI2 ?hIx2 ⟨0, rfl, Nat.zero_le _, RS.out, MK.out⟩ ?hround2 ?hdone2 ?hstop2
      case hfine2 => exact ⟨fun h0 a ha => by have := HV2W'.out a Ld.length cp2 (by rw [ha]) h0; have := HLL.out; omega, by have := HLL.out; omega⟩
      case hI2 =>
        rintro s A B' ⟨k, h1, h2, h4, h5⟩ hab'
        exact ⟨k, h1, h2, h4.below LO1.out hab' (by omega), h5.below hab' (fun d hd => MK.out.lt hd)⟩
      case hIx2 => exact fun c s A B h _ => h
      case hstop2 => exact fun D c pre W _ _ h _ => h.elim
      case hround2 =>
        rintro l' pre x W2 hle2 hlt2 ⟨k, rfl, hk, rs, mk2⟩ hsp
        obtain ⟨hkl, hxx⟩ := upto_next hsp
        obtain ⟨y, hx⟩ : ∃ y, Ld[k]? = some y := ⟨_, List.getElem?_eq_getElem hkl⟩
        have hic : itemC Ld n0 k = (y, (n0 : Int) - y) := by simp [itemC, hx]
        rw [hic] at hxx
        subst hxx
        have hyd := List.mem_of_getElem? hx
        obtain ⟨y1, y2⟩ := HCB2.out y hyd
        obtain ⟨z, rfl⟩ := Int.eq_ofNat_of_zero_le y1
        have hyc : (z : Int) ∈ Lc := by
          rw [← HLC.out]
          exact chain_sub (by omega) (by rw [HLD.out]; exact hyd)
        gi_wp2
        refine ⟨Keeps.refl W2 _, fun W3 hT => ?_⟩
        have rs3 := rs.below LO1.out (hT.below (B := W1.heap.size) (by omega)) (by omega)
        have mk3 := mk2.below (hT.below (B := W1.heap.size) (by omega)) (fun d hd => MK.out.lt hd)
        have hone := markL_one (n := n) hyc (by simp; omega)
        simp only [Int.toNat_natCast] at hone
        have rc := rs3.row.at hone
        obtain ⟨bb0, -⟩ := rs3.st.bb.one
        obtain ⟨ib0, -⟩ := rs3.bi.one
        have hzn : (z : Int) < (n : Int) := by omega
        have hz0 : decide ((z : Int) < 0) = false := by simp
        have hzz : decide ((n : Int) ≤ (z : Int)) = false := by simp; omega
        have HIC := Lib.hid hic
        have RS3 := Lib.hid rs3
        clear hx hic hyd y1 y2 hyc hsp hT rs mk2 hone
        gi_wp2
        exact ⟨Keeps.refl W3 _, k + 1, by rw [upto_succ, HIC.out], hkl, RS3.out, mk3⟩
      case hdone2 =>
        rintro D2 xs W2 hD3 hS ⟨k, -, -, rs, mk2⟩ hKD2
        have mk4 := mk2.cons hKD2 (fun d hd => by have := MK.out.lt hd; omega)
        clear hS hKD2 mk2
        obtain ⟨bq, oq, rfl, hbq, -⟩ := (HV.out.keeps rs.st.kx).addr (by omega)
        have hcapb := (HV.out.keeps rs.st.kx).cap
        have RB := Lib.hid (HV.out.keeps rs.st.kx)
        obtain ⟨Sn, hSn⟩ : ∃ D : Int, (n0 : Int) + (K : Int) = D := ⟨_, rfl⟩
        have f2 : ∀ w9, (Instr.slice 22 (.slice (some ⟨bq, oq, none⟩) n cp0) (some (.int .i64 (n0 : Int))) (some (.int .i64 Sn)) none).run Try.prog w9 = .ok (.slice (some ⟨bq, oq + n0, none⟩) K (cp0 - n0)) w9 := fun w9 => by
          have := run_slice2 (P := Try.prog) Try.underlying22 hi0 hz1 (b := bq) (o := oq) (n := n) (c := cp0) (i := n0) (j := n0 + K) rfl (y := Sn) (by omega) (by omega) (by omega) (by omega) w9
          rwa [Nat.add_sub_cancel_left] at this
        have hw9 : wrap64 Sn = Sn := IntWalk.wrap64_in _ ⟨by omega, by omega⟩
        have m5 : IntKind.i64.wrap Sn = Sn := by simp [IntKind.wrap, IntKind.signed, IntKind.bits]; omega
        obtain ⟨mm, fm1, fm2, fm3, fm4⟩ := find_last (B := b) (p := n0) hK1 (by have := HN.out; omega)
        have hfn := fun w9 (k9 : Keeps W2 w9 []) => find_any p K b (keyAt K b n0) (.slice (some ⟨bq, oq + n0, none⟩) K (cp0 - n0)) S3 w9 (rs.st.ip.keep k9) ((RB.out.keeps k9).piece (p := n0) (q := K) hlt (cp0 - n0) (by omega)) (keyAt_bytes HB.out)
        simp only [fm1, optV_some] at hfn
        have HFN := Lib.hid hfn
        clear hfn
        go_wp2_with fail
        refine wp_noPanic ?_
        have kd : Keeps W2 W2.drew [] := (Keeps.refl W2 []).drew
        have rsd := rs.keeps LO1.out kd (by simp)
        have mkd := mk4.keeps kd (by simp)
        refine wp_region_held_drew (S := (fun w' => HSt w H XB p o K b S3 S4 (.slice (some ⟨bq, oq, none⟩) n cp0) w' ∧ Blk w' ab #[.int .i64 (n0 : Int)] 3 ∧ Keeps W2 w' [])) (by kernel_rfl) ⟨rsd.st, rsd.ba, kd⟩ (fun hHeld => ?_)
        refine takeL (i := 0) (v := ?_) rfl (by kernel_rfl) (by kernel_rfl) (by kernel_rfl) (fun _ _ _ h => (h.1 _ rfl).elim) (by rfl) ?_ (by assumption) ?_
        rotate_left
        · (intro w9 hSw; obtain ⟨q0, -⟩ := hSw.1.bx.one; obtain ⟨q1, -⟩ := hSw.1.bb.one; obtain ⟨q2, -⟩ := hSw.1.bk.one; obtain ⟨q3, -⟩ := hSw.2.1.one; clear hSw; go_simp; (try with_reducible rfl))
        try simp only [Act.put, List.setIfInBounds_toArray, List.set_cons_zero, List.set_cons_succ]
        refine takeL (i := 1) (v := ?_) rfl (by kernel_rfl) (by kernel_rfl) (by kernel_rfl) (fun _ _ _ h => (h.1 _ rfl).elim) (by rfl) ?_ (by assumption) ?_
        rotate_left
        · (intro w9 hSw; obtain ⟨q0, -⟩ := hSw.1.bx.one; obtain ⟨q1, -⟩ := hSw.1.bb.one; obtain ⟨q2, -⟩ := hSw.1.bk.one; obtain ⟨q3, -⟩ := hSw.2.1.one; clear hSw; go_simp; (try with_reducible rfl))
        try simp only [Act.put, List.setIfInBounds_toArray, List.set_cons_zero, List.set_cons_succ]
        refine takeL (i := 2) (v := ?_) rfl (by kernel_rfl) (by kernel_rfl) (by kernel_rfl) (fun _ _ _ h => (h.1 _ rfl).elim) (by rfl) ?_ (by assumption) ?_
        rotate_left
        · (intro w9 hSw; obtain ⟨q0, -⟩ := hSw.1.bx.one; obtain ⟨q1, -⟩ := hSw.1.bb.one; obtain ⟨q2, -⟩ := hSw.1.bk.one; obtain ⟨q3, -⟩ := hSw.2.1.one; clear hSw; go_simp; (try with_reducible rfl))
        try simp only [Act.put, List.setIfInBounds_toArray, List.set_cons_zero, List.set_cons_succ]
        refine takeL (i := 3) (v := ?_) rfl (by kernel_rfl) (by kernel_rfl) (by kernel_rfl) (fun _ _ _ h => (h.1 _ rfl).elim) (by rfl) ?_ (by assumption) ?_
        rotate_left
        · (intro w9 hSw; obtain ⟨q0, -⟩ := hSw.1.bx.one; obtain ⟨q1, -⟩ := hSw.1.bb.one; obtain ⟨q2, -⟩ := hSw.1.bk.one; obtain ⟨q3, -⟩ := hSw.2.1.one; clear hSw; go_simp; (try with_reducible rfl))
        try simp only [Act.put, List.setIfInBounds_toArray, List.set_cons_zero, List.set_cons_succ]
        refine takeL (i := 4) (v := ?_) rfl (by kernel_rfl) (by kernel_rfl) (by kernel_rfl) (fun _ _ _ h => (h.1 _ rfl).elim) (by rfl) ?_ (by assumption) ?_
        rotate_left
        · (intro w9 hSw; obtain ⟨q0, -⟩ := hSw.1.bx.one; obtain ⟨q1, -⟩ := hSw.1.bb.one; obtain ⟨q2, -⟩ := hSw.1.bk.one; obtain ⟨q3, -⟩ := hSw.2.1.one; clear hSw; go_simp; (try with_reducible rfl))
        try simp only [Act.put, List.setIfInBounds_toArray, List.set_cons_zero, List.set_cons_succ]
        refine takeL (i := 5) (v := ?_) rfl (by kernel_rfl) (by kernel_rfl) (by kernel_rfl) (fun _ _ _ h => (h.1 _ rfl).elim) (by rfl) ?_ (by assumption) ?_
        rotate_left
        · (intro w9 hSw; obtain ⟨q0, -⟩ := hSw.1.bx.one; obtain ⟨q1, -⟩ := hSw.1.bb.one; obtain ⟨q2, -⟩ := hSw.1.bk.one; obtain ⟨q3, -⟩ := hSw.2.1.one; clear hSw; go_simp; (try with_reducible rfl))
        try simp only [Act.put, List.setIfInBounds_toArray, List.set_cons_zero, List.set_cons_succ]
        refine takeL (i := 6) (v := ?_) rfl (by kernel_rfl) (by kernel_rfl) (by kernel_rfl) (fun _ _ _ h => (h.1 _ rfl).elim) (by rfl) ?_ (by assumption) ?_
        rotate_left
        · (intro w9 hSw; obtain ⟨q0, -⟩ := hSw.1.bx.one; obtain ⟨q1, -⟩ := hSw.1.bb.one; obtain ⟨q2, -⟩ := hSw.1.bk.one; obtain ⟨q3, -⟩ := hSw.2.1.one; clear hSw; go_simp; (try with_reducible rfl))
        try simp only [Act.put, List.setIfInBounds_toArray, List.set_cons_zero, List.set_cons_succ]
        refine callL (i := 7) rfl (by kernel_rfl) (fun Kont hK => ?_)
        go_simp
        refine (HFN.out _ hHeld.2.2).mono ?_; rintro e w3 ⟨rfl, kk⟩
        go_wp2_with fail
        refine hK.out _ _ ?_ (fun hHeld => ?_)
        · (exact ⟨hHeld.1.keeps LO.out kk (by simp), hHeld.2.1.keeps kk (by simp), hHeld.2.2.then kk⟩)
        clear hK Kont
        refine takeL (i := 8) (v := ?_) rfl (by kernel_rfl) (by kernel_rfl) (by kernel_rfl) (fun _ _ _ h => (h.1 _ rfl).elim) (by rfl) ?_ (by assumption) ?_
        rotate_left
        · (intro w9 hSw; obtain ⟨q0, -⟩ := hSw.1.bx.one; obtain ⟨q1, -⟩ := hSw.1.bb.one; obtain ⟨q2, -⟩ := hSw.1.bk.one; obtain ⟨q3, -⟩ := hSw.2.1.one; clear hSw; go_simp; (try with_reducible rfl))
        try simp only [Act.put, List.setIfInBounds_toArray, List.set_cons_zero, List.set_cons_succ]
        refine takeL (i := 9) (v := ?_) rfl (by kernel_rfl) (by kernel_rfl) (by kernel_rfl) (fun _ _ _ h => (h.1 _ rfl).elim) (by rfl) ?_ (by assumption) ?_
        rotate_left
        · (intro w9 hSw; obtain ⟨q0, -⟩ := hSw.1.bx.one; obtain ⟨q1, -⟩ := hSw.1.bb.one; obtain ⟨q2, -⟩ := hSw.1.bk.one; obtain ⟨q3, -⟩ := hSw.2.1.one; clear hSw; go_simp; (try with_reducible rfl))
        try simp only [Act.put, List.setIfInBounds_toArray, List.set_cons_zero, List.set_cons_succ]
        refine takeL (i := 10) (v := ?_) rfl (by kernel_rfl) (by kernel_rfl) (by kernel_rfl) (fun _ _ _ h => (h.1 _ rfl).elim) (by rfl) ?_ (by assumption) ?_
        rotate_left
        · (intro w9 hSw; obtain ⟨q0, -⟩ := hSw.1.bx.one; obtain ⟨q1, -⟩ := hSw.1.bb.one; obtain ⟨q2, -⟩ := hSw.1.bk.one; obtain ⟨q3, -⟩ := hSw.2.1.one; clear hSw; go_simp; (try with_reducible rfl))
        try simp only [Act.put, List.setIfInBounds_toArray, List.set_cons_zero, List.set_cons_succ]
        refine takeL (i := 11) (v := ?_) rfl (by kernel_rfl) (by kernel_rfl) (by kernel_rfl) (fun _ _ _ h => (h.1 _ rfl).elim) (by rfl) ?_ (by assumption) ?_
        rotate_left
        · (intro w9 hSw; obtain ⟨q0, -⟩ := hSw.1.bx.one; obtain ⟨q1, -⟩ := hSw.1.bb.one; obtain ⟨q2, -⟩ := hSw.1.bk.one; obtain ⟨q3, -⟩ := hSw.2.1.one; clear hSw; go_simp; (try with_reducible rfl))
        try simp only [Act.put, List.setIfInBounds_toArray, List.set_cons_zero, List.set_cons_succ]
        refine takeL (i := 12) (v := ?_) rfl (by kernel_rfl) (by kernel_rfl) (by kernel_rfl) (fun _ _ _ h => (h.1 _ rfl).elim) (by rfl) ?_ (by assumption) ?_
        rotate_left
        · (intro w9 hSw; obtain ⟨q0, -⟩ := hSw.1.bx.one; obtain ⟨q1, -⟩ := hSw.1.bb.one; obtain ⟨q2, -⟩ := hSw.1.bk.one; obtain ⟨q3, -⟩ := hSw.2.1.one; clear hSw; go_simp; (try with_reducible rfl))
        try simp only [Act.put, List.setIfInBounds_toArray, List.set_cons_zero, List.set_cons_succ]
        refine wpAnyH_done (by kernel_rfl) ?_ _
        refine ⟨by simp, ?_⟩
        obtain ⟨st9, ba9, k9⟩ := hHeld
        have mk9 := mk4.keeps k9 (by simp)
        obtain ⟨bb0, -⟩ := st9.bb.one
        obtain ⟨k0, -⟩ := st9.bk.one
        obtain ⟨a0, -⟩ := ba9.one
        obtain ⟨Sm, hSm⟩ : ∃ D : Int, (mm : Int) + (K : Int) = D := ⟨_, rfl⟩
        obtain ⟨En, hEn⟩ : ∃ D : Int, (n : Int) - (K : Int) = D := ⟨_, rfl⟩
        have hmn : mm + K ≤ n := by have := HN.out; omega
        have m4 : IntKind.i64.wrap Sm = Sm := by simp [IntKind.wrap, IntKind.signed, IntKind.bits]; omega
        have m6 : IntKind.i64.wrap En = En := by simp [IntKind.wrap, IntKind.signed, IntKind.bits]; omega
        have n1 : decide (mm < n0) = false := by simp; omega
        have n2 : decide (En < (mm : Int)) = false := by simp; omega
        have f1 : ∀ w9, (Instr.slice 22 (.slice (some ⟨bq, oq, none⟩) n cp0) (some (.int .i64 (mm : Int))) (some (.int .i64 Sm)) none).run Try.prog w9 = .ok (.slice (some ⟨bq, oq + mm, none⟩) K (cp0 - mm)) w9 := fun w9 => by
          have := run_slice2 (P := Try.prog) Try.underlying22 hi0 hz1 (b := bq) (o := oq) (n := n) (c := cp0) (i := mm) (j := mm + K) rfl (y := Sm) (by omega) (by omega) (by omega) (by omega) w9
          rwa [Nat.add_sub_cancel_left] at this
        obtain ⟨SK, hSK⟩ : ∃ SK, strOfNums (keyAt K b n0) = SK := ⟨_, rfl⟩
        have hcv : ∀ (z : Nat) (w9 : World), Keeps w3 w9 [] → z + K ≤ n → (convert 22 9 (.slice (some ⟨bq, oq + z, none⟩) K (cp0 - z))).run Try.prog w9 = .ok (.string (strOfNums (keyAt K b z))) w9 := fun z w9 kk hz =>
          str_of ((RB.out.keeps (k9.then kk)).piece (p := z) (q := K) hz (cp0 - z) (by omega)) Try.underlying22 Try.underlying5 Try.underlying9
        have c1 : ∀ q, (convert 22 9 (.slice (some ⟨bq, oq + mm, none⟩) K (cp0 - mm))).run Try.prog (w3.drewN q) = .ok (.string SK) (w3.drewN q) := fun q => by
          have := hcv mm (w3.drewN q) ((Keeps.refl w3 []).drewN q) hmn
          rw [fm4, hSK] at this
          exact this
        have c2 : ∀ q, (convert 22 9 (.slice (some ⟨bq, oq + n0, none⟩) K (cp0 - n0))).run Try.prog (w3.drewN q) = .ok (.string SK) (w3.drewN q) := fun q => by
          have := hcv n0 (w3.drewN q) ((Keeps.refl w3 []).drewN q) hlt
          rw [hSK] at this
          exact this
        have LOM := Lib.hid (show mm + K ≤ n ∧ n0 ≤ mm from ⟨hmn, fm2⟩)
        clear fm1 fm2 fm3 fm4 hSK hcv hmn
        go_wp2_with fail
        go_quiet (fail)
        have st10 := st9.keeps LO.out ((Keeps.refl w3 []).drewN nq) (by simp)
        have ba10 := ba9.drewN nq
        have mk10 := mk9.keeps ((Keeps.refl w3 []).drewN nq) (by simp)
        have kq : W2.heap.size ≤ (w3.drewN nq).heap.size := by have := k9.size; simpa using this
        clear a0 k0 bb0 c1 c2 f1 f2
        generalize w3.drewN nq = W9 at *
        obtain ⟨a0, -⟩ := ba10.one
        have hlab := ba10.lt
        go_wp2_with fail
        have kf : Keeps W9 (W9.alloc (.cells #[.int .i64 ((n0 : Int) + 1)] 3)) [] := (Keeps.refl W9 []).alloc _
        exact ⟨n + 1 - (n0 + 1), by omega, n0 + 1, W9.heap.size, D2 :: D :: ds, rfl, by omega, ⟨rfl, rfl, rfl, rfl, rfl, rfl, rfl⟩, rfl, st10.keeps LO.out kf (by simp), by have := Blk.new W9 #[.int .i64 ((n0 : Int) + 1)] 3; simpa using this, mk10.keeps kf (by simp), (fun d hd => by
          rcases List.mem_cons.1 hd with rfl | hd
          · have := HLL.out; omega
          · rcases List.mem_cons.1 hd with rfl | hd
            · exact hD2
            · exact hds d hd), by omega⟩
  · have hle : ¬ ((n0 : Int) + (K : Int) ≤ (n : Int)) := by omega
    have WK := works_true X
    go_wp2_with (go_at_call 10; refine WK.mono ?_; rintro e X2 ⟨rfl, kk⟩; obtain ⟨c6, f6⟩ := (st.b8.keeps kk (by simp)).one)
    have hX8 : H + 1 + 1 < L := LO.out.h
    have ks : Keeps X2 (X2.setCell ⟨H + 1 + 1, 0, none⟩ (.bool true)) [H + 1 + 1] := (Keeps.refl X2 _).setCell (.inr (by simp)) _
    have mk2 := (mk.keeps kk (by simp)).keeps ks (fun d hd hm => by have := hds d hd; have := List.mem_singleton.1 hm; omega)
    have b8 := (st.b8.keeps kk (by simp)).set 0 (.bool true)
    have kw2 : Keeps w (X2.setCell ⟨H + 1 + 1, 0, none⟩ (.bool true)) [] := (st.kx.then kk).trans ks (fun z hz hlt2 => by have := List.mem_singleton.1 hz; omega)
    generalize X2.setCell ⟨H + 1 + 1, 0, none⟩ (.bool true) = X3 at *
    refine putAll_leaves ds X3 mk2 ⟨.bool true, ?_, rfl, ?_⟩
    · have b9 : Blk (putAll ds X3) (H + 1 + 1) #[.bool true] 4 := (putAll_other ds X3 (H + 1 + 1) (fun hm => by have := hds _ hm; omega)).trans (show Blk X3 (H + 1 + 1) #[.bool true] 4 from by simpa using b8)
      exact res_cell Try.results6 rfl (Try.loadBool _ _ _ (b9.cell 0))
    · exact kw2.below.trans ((putAll_below ds X3 L mk2 hds).mono (by have := LO.out.w; omega))

end Go.Proofs.Yticlhaofmcajpaa
