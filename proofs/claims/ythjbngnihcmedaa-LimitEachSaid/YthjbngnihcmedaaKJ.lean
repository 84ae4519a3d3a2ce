/-
  The law on LengthCounts: its walk.
-/
import Derived.Test.YthjbngnihcmedaaKI
import Derived.Test.YthjbngnihcmedaaKE
import Derived.Test.YthjbngnihcmedaaAp
import Derived.Test.YthjbngnihcmedaaRQ
import Derived.Test.YthjbngnihcmedaaRC
import Derived.Test.YthjbngnihcmedaaLift
import Derived.Deep.DeepCutAuto
import Derived.Deep.CutRange
import Derived.Laws.OwnMore
namespace Go.Proofs.Ythjbngnihcmedaa
set_option linter.unusedVariables false
set_option linter.unusedSimpArgs false
open Go.RowKit

attribute [local go_sem] Oper.semAt_some

/-- A function value is not nil. -/
@[go_sem] theorem eq_fn_nil (f : Fn) (x y : Array Value) (w : World) : (Go.binOp .eql 53 (.func f x y) .nilFunc).run Try.prog w = .ok (.bool false) w := by
  simp only [Go.binOp, Op.equal, Op.maxDepth]
  rw [show (10000 : Nat) = 9999 + 1 from rfl, Op.equalIn]
  simp [go_sem]

theorem LawEnd.of_keeps {w w' : World} (h : Keeps w w' []) : LawEnd w (.returned (.bool true)) w' := ⟨rfl, h.below⟩
/-- How many rounds the first turn makes. -/
def manyOf (n : Nat) (many : Int) : Int := if (n : Int) < (if 1 < many then many else 1) then n else (if 1 < many then many else 1)
theorem manyOf_stop {n k : Nat} {many : Int} (h1 : k < n) (h2 : k = 0 ∨ (k : Int) < many) (h3 : many ≤ (k : Int) + 1) : (((k + 1 : Nat) : Int)) = manyOf n many := by
  unfold manyOf
  repeat' split
  all_goals omega
theorem manyOf_done {n : Nat} {many : Int} (h2 : n = 0 ∨ (n : Int) < many) : (n : Int) = manyOf n many := by
  unfold manyOf
  repeat' split
  all_goals omega
theorem manyOf_cases {n k : Nat} {many : Int} (h : (k : Int) = manyOf n many) : (1 < many → many < (n : Int) → (k : Int) = many) ∧ (1 < many → (n : Int) ≤ many → (k : Int) = n) ∧ (many ≤ 1 → 1 < (n : Int) → (k : Int) = 1) ∧ (many ≤ 1 → (n : Int) ≤ 1 → (k : Int) = n) := by
  unfold manyOf at h
  refine ⟨?_, ?_, ?_, ?_⟩ <;> intro h1 h2 <;> repeat' split at h
  all_goals omega

theorem RdI.below {k : IntKind} {w w' : World} {B : Nat} {v : Value} {l : List Int} (h : RdI k w v l) (kk : Below B w w') (hn : ∀ ad n cp, v = .slice (some ad) n cp → 0 < n → ad.block < B) : RdI k w' v l := by
  obtain ⟨a, n, cp, rfl, hn', h0, hc⟩ := h.form
  refine ⟨a, n, cp, rfl, hn', h0, fun hp => ?_⟩
  obtain ⟨h1, b, o, rfl, h3, h4⟩ := hc hp
  exact ⟨h1, b, o, rfl, Nat.lt_of_lt_of_le h3 kk.size, fun i x hx => (World.cell?_of_block (w := w) (a := ⟨b, o + i, Option.none⟩) (kk.block b (hn _ _ _ rfl hp))).trans (h4 i x hx)⟩

/-- What both turns keep; all of it lies below block B. -/
structure EaSt (w : World) (B : Nat) (l T : List Int) (many : Int) (bm bt r3 r4 r9 : Nat) (aw : Option Addr) (cw M : Nat) (W : World) : Prop where
  kx : Keeps w W []
  b3 : Blk W r3 #[.int .i64 many] 3
  b4 : Blk W r4 #[.bool false] 4
  b9 : Blk W r9 #[.slice aw M cw] 22
  kbm : Blk W bm #[.int .i64 (M : Int)] 3
  kbt : Blk W bt (ints T) 78
  rw : RdI .i64 W (.slice aw M cw) (manyR l 1 M)
  l3 : r3 < B
  l4 : r4 < B
  l9 : r9 < B
  lm : bm < B
  lt : bt < B
  lw : ∀ p, aw = some p → 0 < M → p.block < B
  w0 : w.heap.size ≤ B
theorem EaSt.below {w : World} {B : Nat} {l T : List Int} {many : Int} {bm bt r3 r4 r9 : Nat} {aw : Option Addr} {cw M : Nat} {W W' : World} (h : EaSt w B l T many bm bt r3 r4 r9 aw cw M W) (k : Below B W W') : EaSt w B l T many bm bt r3 r4 r9 aw cw M W' :=
  ⟨Keeps.of_below (h.kx.below.trans (k.mono h.w0)), (k.block _ h.l3).trans h.b3, (k.block _ h.l4).trans h.b4, (k.block _ h.l9).trans h.b9, (k.block _ h.lm).trans h.kbm, (k.block _ h.lt).trans h.kbt,
    h.rw.below k (fun ad n cp he h0 => by cases he; exact h.lw _ rfl h0), h.l3, h.l4, h.l9, h.lm, h.lt, h.lw, h.w0⟩

set_option maxRecDepth 100000 in
set_option maxHeartbeats 8000000 in
theorem law_each (l : List Int) (many : Int) (v : Value) (w : World) (hv : RdI .i64 w v l) (hm1 : -9223372036854775808 ≤ many) (hm2 : many ≤ 9223372036854775807) :
    Calls Try.prog 10 #[v, .int .i64 many] w (LawEnd w) := by
  obtain ⟨A0, n, cp0, rfl, hnl, -⟩ := hv.form
  have k0 : Keeps w ((w.alloc (.cells #[.int .i64 many] 3)).alloc (.cells #[.bool false] 4)) [] := ((Keeps.refl w []).alloc _).alloc _
  have q3 := (Blk.new w #[.int .i64 many] 3).alloc (.cells #[.bool false] 4)
  have q4 := Blk.new (w.alloc (.cells #[.int .i64 many] 3)) #[.bool false] 4
  rw [World.size_alloc] at q4
  by_cases h300 : 300 < n
  · clear hv hnl q3
    have h1 : (300 : Int) < (n : Int) := by omega
    have WK := Lib.hid (works_true ((w.alloc (.cells #[.int .i64 many] 3)).alloc (.cells #[.bool false] 4)))
    go_enter Try.func10, Try.ntmps10
    go_wp2_with (go_at_call 13; refine WK.out.mono ?_; rintro e w5 ⟨rfl, kk⟩; obtain ⟨c6, f6⟩ := (q4.keeps kk (by simp)).one)
    exact bodyPost_ret (v := .bool true) (res_cell Try.results10 rfl (Try.loadBool _ _ _ (World.cell?_setCell_same' _ _ _ (by rw [c6]; rfl)))) rfl (LawEnd.of_keeps ((k0.then kk).setCell (.inl (by simp)) _))
  · have hd : decide ((300 : Int) < (n : Int)) = false := decide_eq_false (by omega)
    have hn4 : n ≤ 300 := by omega
    have hl4 : l.length ≤ 300 := by omega
    have HV := Lib.hid hv
    have HN := Lib.hid hnl
    have HMX := Lib.hid (fun w' (k : Keeps w w' []) => maxLen_any _ l w' (hv.keeps k) (by omega))
    have HGR := Lib.hid (fun w' (k : Keeps w w' []) => r_greatest _ l w' (hv.keeps k) (by omega))
    have HMA := Lib.hid (fun w' (k : Keeps w w' []) => r_many _ l w' (hv.keeps k) (by omega))
    obtain ⟨hM60, hMe⟩ := mostN_le l
    have HCE : Hid (∀ v w', RdI .i64 w' v l → Calls Try.prog 32 #[v] w' (CountsEnd w' l)) := fun v w' h => counts_any v l w' h (by omega)
    unfold CountsEnd at HCE
    rw [hMe] at HMX HGR
    generalize mostN l = M at *
    generalize maxErr l = E at *
    have hEE : (E == E) = true := by simp
    have hMM : (M == M) = true := by simp
    obtain ⟨i0, hi0, hz0, hz1, hz2⟩ := info_parts Try.infoInt
    clear hv hnl h300 hMe
    refine calls_of_marks Try.func10 rfl ?_
    simp only [Try.ntmps10, List.size_toArray, List.length_cons, List.length_nil, Nat.reduceAdd, Nat.reduceSub, Array.replicate_succ, Array.replicate_zero, List.push_toArray, List.append_toArray, List.nil_append, List.cons_append]
    go_wp2_with fail
    refine (HMX.out _ k0).mono ?_
    rintro e wA ⟨rfl, k1⟩
    replace q3 := q3.keeps k1 (by simp)
    replace q4 := q4.keeps k1 (by simp)
    replace k0 := k0.then k1
    clear k1 HMX
    go_wp2_with fail
    refine (HGR.out _ k0).mono ?_
    rintro e wB ⟨rfl, hw⟩
    subst wB
    go_wp2_with fail
    refine (HMA.out _ k0).mono ?_
    rintro e w1 ⟨vW, rfl, rW, hfW, k1⟩
    replace q3 := q3.keeps k1 (by simp)
    replace q4 := q4.keeps k1 (by simp)
    replace k0 := k0.then k1
    obtain ⟨aw, nw, cw, rfl, hnw, -⟩ := rW.form
    rw [manyR_len] at hnw
    obtain rfl := hnw
    have hlow1 : w.heap.size + 2 ≤ w1.heap.size := by have := q4.lt; omega
    clear k1 HMA HGR
    have K1 : Keeps w (w1.alloc (.cells #[.slice aw nw cw] 22)) [] := k0.alloc _
    have q31 := q3.alloc (.cells #[.slice aw nw cw] 22)
    have q41 := q4.alloc (.cells #[.slice aw nw cw] 22)
    have q51 := Blk.new w1 #[.slice aw nw cw] 22
    have haw : Hid (∀ p, aw = some p → p.block < w1.heap.size ∨ nw = 0) := fun p hp => by
      subst hp
      by_cases h0 : 0 < nw
      · obtain ⟨b, o, e, hb, -⟩ := rW.addr h0
        cases e; exact .inl hb
      · exact .inr (by omega)
    have rW1 := Lib.hid (rW.keeps ((Keeps.refl w1 []).alloc (.cells #[.slice aw nw cw] 22)))
    have RVx := Lib.hid ((HV.out.keeps K1).keeps ((Keeps.refl _ []).alloc (.cells #[] 3)))
    have hsz1 : (w1.alloc (.cells #[.slice aw nw cw] 22)).heap.size = w1.heap.size + 1 := by simp
    have HSZ1 := Lib.hid hsz1
    clear rW hfW k0 q3 q4 hsz1
    go_wp2_with (first
      | (with_reducible refine wpList_build0 rfl 22 3 rfl i0 _ 1 Try.underlying22 hi0 hz0 ?_; intro v4 hown4 hv4 hne4; have HO4 := Lib.hid hown4; clear hown4; have HV4 := Lib.hid hv4; clear hv4)
      | (at_builtin; refine wpList_appendI rfl (.tmp 33) (.tmp 34) 22 rfl (w1.alloc (.cells #[.slice aw nw cw] 22)).heap.size 3 i0 (.int .i64 0) 8 Try.underlying22 hi0 hz0 hz1 hz2 rfl v4 0 [] rfl HO4.out (.slice A0 n cp0) rfl .i64 l RVx.out (by unfold maxLen; omega) (by omega) (by simp) ?_; intro v5 w5 own5 hg5 _; rw [Nat.zero_add, List.nil_append, HSZ1.out] at own5; obtain ⟨A5, c5, rfl⟩ := own_form own5; rw [HV4.out] at hg5; have k5 : Keeps (w1.alloc (.cells #[.slice aw nw cw] 22)) w5 [] := ((Keeps.refl _ []).alloc _).trans (Keeps.of_grown (S := [w1.heap.size + 1]) hg5 (fun j hj => by cases hj; simp)) (fun x hx hlt => by have := List.mem_singleton.1 hx; simp at hlt; omega)))
    have O5 := Lib.hid own5
    clear own5 hg5 HO4 HV4 RVx
    refine (HCE.out _ w5 (own_reads O5.out)).mono ?_
    rintro e w7 ⟨bm, bt, T, rfl, bbm, bbt, hT, hbm, hbt, k7⟩
    clear HCE
    have HT := Lib.hid hT
    clear hT
    go_wp2_with (first | (go_at_call 16; refine (num_any _ _).mono ?_; rintro e w' ⟨rfl, hw⟩; subst w'))
    have q37 := (q31.keeps k5 (by simp)).keeps k7 (by simp)
    have q47 := (q41.keeps k5 (by simp)).keeps k7 (by simp)
    have q57 := (q51.keeps k5 (by simp)).keeps k7 (by simp)
    have rW7 := (rW1.out.keeps k5).keeps k7
    have K7 := (K1.then k5).then k7
    have hs5 := k5.size
    rw [HSZ1.out] at hs5
    have hs7 := k7.size
    have O7 := Lib.hid (own_keeps O5.out k7)
    have hO5 : Hid (∀ x, Value.ownBlock (.slice A5 l.length c5) = some x → w1.heap.size + 1 ≤ x ∧ x < w5.heap.size) := fun x hx => O5.out.lt x hx
    clear q31 q41 q51 rW1 K1 k5 k7 O5
    go_loopw [12] (fun s8 wr => ∃ (j : Nat) (L : List Int), j ≤ l.length ∧ Hid (L.length = l.length) ∧ s8 = .int .i64 j ∧ Hid (wr.ownsRow (w1.heap.size + 1) 3 1 (.slice A5 l.length c5) l.length (L.map (.int .i64))) ∧ Keeps w7 wr (Value.ownBlock (.slice A5 l.length c5)).toList) (fun s8 _ => l.length - (intOf s8).toNat)
    case atStart => exact ⟨0, l, Nat.zero_le _, rfl, rfl, O7.out, Keeps.refl _ _⟩
    case round =>
      obtain ⟨j, L, hj, hLl, rfl, own, kx⟩ := hrel
      clear O7
      by_cases hjl : j < l.length
      · obtain ⟨y, hy⟩ : ∃ y, L[j]? = some y := ⟨_, List.getElem?_eq_getElem (by have := hLl.out; omega)⟩
        obtain ⟨g, rfl⟩ : ∃ g, A5 = some ⟨g, 0, none⟩ := by
          rcases own.out.2 with ⟨h1, h2⟩ | ⟨g, cap, cur, h1, -⟩
          · injection h1 with e1 e2 e3; omega
          · cases h1; exact ⟨_, rfl⟩
        have hyc : wr.cell? ⟨g, j, none⟩ = some (.int .i64 y) := by
          rw [own.out.cellAt j (by omega), List.getElem?_map, hy]; rfl
        have hyf := own.out.frozenAt j
        have hcap5 : l.length ≤ c5 := by
          rcases own.out.2 with ⟨h1, h2⟩ | ⟨g', cap, cur, h1, -, -, h4, -⟩
          · cases h1
          · cases h1; exact h4
        have hjI : (j : Int) < (l.length : Int) := by omega
        have hj0 : (0 : Int) ≤ (j : Int) := Int.natCast_nonneg _
        have OST := Lib.hid (fun u => (own.out.stored j u).1)
        have KST := Lib.hid (fun u => kx.setCell (a := ⟨g, j, none⟩) (.inr (by simp [Value.ownBlock])) u)
        clear hy own kx
        go_wp2_with fail
        go_roundw
        case rel => exact ⟨j + 1, L.set j 1, by omega, by show _ = _; rw [List.length_set]; exact hLl.out, by go_num, by show World.ownsRow _ _ _ _ _ _ _; rw [List.map_set]; exact OST.out _, KST.out _⟩
        case measure => simp [intOf]; omega
      · have notC : ∀ x, (x < w1.heap.size + 1 ∨ w5.heap.size ≤ x) → x ∉ (Value.ownBlock (.slice A5 l.length c5)).toList := fun x hx hm => by have := hO5.out x (by simpa using hm); omega
        have st : EaSt w wr.heap.size l T many bm bt w.heap.size (w.heap.size + 1) w1.heap.size aw cw nw wr := by
          have k37 := q37.keeps kx (notC _ (by omega))
          have k47 := q47.keeps kx (notC _ (by omega))
          have k57 := q57.keeps kx (notC _ (by omega))
          have kbm := bbm.keeps kx (notC _ (.inr hbm))
          have kbt := bbt.keeps kx (notC _ (.inr hbt))
          have hsx := kx.size
          refine ⟨K7.trans kx (fun x hx hlt => by have := hO5.out x (by simpa using hx); omega), k37, k47, k57, kbm, kbt,
            rW7.keepsS kx (fun ad n cp he h0 => notC _ (by cases he; have := haw.out _ rfl; omega)), k37.lt, k47.lt, k57.lt, kbm.lt, kbt.lt,
            fun p hp h0 => by have := haw.out p hp; omega, by have := K7.size; omega⟩
        obtain ⟨B, st, hB⟩ : ∃ B, EaSt w B l T many bm bt w.heap.size (w.heap.size + 1) w1.heap.size aw cw nw wr ∧ B ≤ wr.heap.size := ⟨_, st, Nat.le_refl _⟩
        clear q37 q47 q57 bbm bbt rW7 K7 notC own kx hLl hO5 haw hs5 hs7 hbm hbt
        go_wp2_with fail
        refine wp_loop_rounds 3 ?_
        rw [rounds_succ]
        go_wp2_with fail
        have st0 : EaSt w B l T many bm bt w.heap.size (w.heap.size + 1) w1.heap.size aw cw nw ((wr.alloc (.cells #[.int .i64 0] 3)).alloc (.cells #[.int .i64 0] 3)) := st.below (((Below.refl _ wr).alloc hB _).alloc (by simp; omega) _)
        have bT := (Blk.new wr #[.int .i64 0] 3).alloc (.cells #[.int .i64 0] 3)
        have bN := Blk.new (wr.alloc (.cells #[.int .i64 0] 3)) #[.int .i64 0] 3
        simp only [World.size_alloc] at bN
        refine range_PX (gf := 55) (lb := #[.pointer (some ⟨bm, 0, none⟩), .pointer (some ⟨bt, 0, none⟩)]) rfl (enters_of Try.func55 (by kernel_rfl) rfl)
          (counts1_seq bm bt nw l T _ hM60 st0.kbm st0.kbt HT.out) [wr.heap.size + 1] ?hC ?hfine (fun _ => rfl) 4
          (fun pre X => EaSt w B l T many bm bt w.heap.size (w.heap.size + 1) w1.heap.size aw cw nw X ∧ Blk X wr.heap.size #[.int .i64 0] 3 ∧ ∃ k : Nat, pre = upto (itemM l) k ∧ k ≤ nw ∧ (k = 0 ∨ (k : Int) < many) ∧ Blk X (wr.heap.size + 1) #[.int .i64 k] 3)
          (fun pre X => EaSt w B l T many bm bt w.heap.size (w.heap.size + 1) w1.heap.size aw cw nw X ∧ Blk X wr.heap.size #[.int .i64 0] 3 ∧ ∃ k : Nat, (k : Int) = manyOf nw many ∧ k ≤ nw ∧ Blk X (wr.heap.size + 1) #[.int .i64 k] 3)
          (fun X => EaSt w B l T many bm bt w.heap.size (w.heap.size + 1) w1.heap.size aw cw nw X ∧ Blk X wr.heap.size #[.int .i64 0] 3 ∧ ∃ k : Nat, (k : Int) = manyOf nw many ∧ k ≤ nw ∧ Blk X (wr.heap.size + 1) #[.int .i64 k] 3)
          ?hI ?hIx ?h0 ?hround ?hdone ?hstop ?hex ?hrest
        case hC => intro x hx; have := List.mem_singleton.1 hx; subst this; exact ⟨bN.lt, by have := st0.lm; omega, by have := st0.lt; omega⟩
        case hfine => exact ⟨by have := st0.lm; have := bN.lt; omega, by have := st0.lt; have := bN.lt; omega⟩
        case hI =>
          rintro s A B' ⟨h1, h2, k, h3, h4, h5, h6⟩ hab
          exact ⟨h1.below (hab.mono (by have := bN.lt; omega)), (hab.block _ bT.lt).trans h2, k, h3, h4, h5, (hab.block _ bN.lt).trans h6⟩
        case hIx =>
          rintro s A B' ⟨h1, h2, k, h3, h4, h6⟩ hab
          exact ⟨h1.below (hab.mono (by have := bN.lt; omega)), (hab.block _ bT.lt).trans h2, k, h3, h4, (hab.block _ bN.lt).trans h6⟩
        case hstop => exact fun pre X _ h => h
        case hex => exact fun a' W h => by simpa [Exit.inBlock, Exit.noGoto] using h
        case h0 => exact ⟨st0, bT, 0, rfl, Nat.zero_le _, .inl rfl, bN⟩
        case hdone =>
          rintro xs X hS ⟨h1, h2, k, h3, h4, h5, h6⟩
          have hkS : k = nw := by
            rw [h3] at hS
            simpa [upto_length] using congrArg List.length hS
          exact ⟨h1, h2, k, by rw [hkS]; exact manyOf_done (by rw [← hkS]; exact h5), h4, h6⟩
        rotate_left
        focus
          rintro D X hD hK ⟨st1, bT1, k, hkm, hkl, bN1⟩
          obtain ⟨t0, ft0⟩ := bT1.one
          obtain ⟨n0, fn0⟩ := bN1.one
          obtain ⟨m0, fm0⟩ := st1.b3.one
          obtain ⟨w0, fw0⟩ := st1.b9.one
          have hsz1 : wr.heap.size + 1 < X.heap.size := bN1.lt
          have HK := Lib.hid hkm
          clear hkm
          focus
            go_upto_region 25 with fail
            go_cut [114] from 94 to 114 (fun s114 wx => s114 = .bool false ∧ wx = X)
            case first =>
              go_wp2_with fail
              all_goals
                go_meet
                first
                  | exact ⟨rfl, rfl⟩
                  | (exfalso; obtain ⟨z1, z2, z3, z4⟩ := manyOf_cases HK.out; omega)
                  | (refine ⟨?_, rfl⟩; obtain ⟨z1, z2, z3, z4⟩ := manyOf_cases HK.out; have hz : ∀ b : Bool, b = false → Value.bool b = .bool false := (fun b h => by rw [h]); refine hz _ ?_; simp; omega)
          obtain ⟨rfl, rfl⟩ := hcut
          go_wp2_with fail
          rw [rounds_succ]
          go_wp2_with fail
          have hB1 : B ≤ wc.heap.size := by omega
          have hDc : D < wc.heap.size := (Array.getElem?_eq_some_iff.1 hK).1
          have hDB : B ≤ D := by simp at hD; omega
          clear t0 n0 m0 w0 ft0 fn0 fm0 fw0 bT1 bN1 bT bN st st0 HK hkl hB hD hsz1
          obtain ⟨wr, rfl⟩ : ∃ wr, wr = wc := ⟨_, rfl⟩
          have st0 : EaSt w B l T many bm bt w.heap.size (w.heap.size + 1) w1.heap.size aw cw nw ((wr.alloc (.cells #[.int .i64 1] 3)).alloc (.cells #[.int .i64 0] 3)) := st1.below (((Below.refl _ wr).alloc hB1 _).alloc (by simp; omega) _)
          have hK0 : ((wr.alloc (.cells #[.int .i64 1] 3)).alloc (.cells #[.int .i64 0] 3)).heap[D]? = some (.deferred (some [])) := ((((Below.refl wr.heap.size wr).alloc (Nat.le_refl _) _).alloc (by simp) _).block D hDc).trans hK
          have bT := (Blk.new wr #[.int .i64 1] 3).alloc (.cells #[.int .i64 0] 3)
          have bN := Blk.new (wr.alloc (.cells #[.int .i64 1] 3)) #[.int .i64 0] 3
          simp only [World.size_alloc] at bN
          have hB := hB1
          refine range_PX (gf := 55) (lb := #[.pointer (some ⟨bm, 0, none⟩), .pointer (some ⟨bt, 0, none⟩)]) rfl (enters_of Try.func55 (by kernel_rfl) rfl)
            (counts1_seq bm bt nw l T _ hM60 st0.kbm st0.kbt HT.out) [wr.heap.size + 1] ?hC1 ?hfine1 (fun _ => rfl) 4
            (fun pre X => EaSt w B l T many bm bt w.heap.size (w.heap.size + 1) w1.heap.size aw cw nw X ∧ Blk X wr.heap.size #[.int .i64 1] 3 ∧ ∃ k : Nat, pre = upto (itemM l) k ∧ k ≤ nw ∧ X.heap[D]? = some (.deferred (some [])) ∧ Blk X (wr.heap.size + 1) #[.int .i64 k] 3)
            (fun pre X => EaSt w B l T many bm bt w.heap.size (w.heap.size + 1) w1.heap.size aw cw nw X ∧ Blk X wr.heap.size #[.int .i64 1] 3 ∧ ∃ k : Nat, False ∧ k ≤ nw ∧ Blk X (wr.heap.size + 1) #[.int .i64 k] 3)
            (fun X => EaSt w B l T many bm bt w.heap.size (w.heap.size + 1) w1.heap.size aw cw nw X ∧ Blk X wr.heap.size #[.int .i64 1] 3 ∧ X.heap[D]? = some (.deferred (some [])) ∧ Blk X (wr.heap.size + 1) #[.int .i64 (nw : Int)] 3)
            ?hI1 ?hIx1 ?h01 ?hround1 ?hdone1 ?hstop1 ?hex1 ?hrest1
          case hC1 => intro x hx; have := List.mem_singleton.1 hx; subst this; exact ⟨bN.lt, by have := st0.lm; omega, by have := st0.lt; omega⟩
          case hfine1 => exact ⟨by have := st0.lm; have := bN.lt; omega, by have := st0.lt; have := bN.lt; omega⟩
          case hI1 =>
            rintro s A B' ⟨h1, h2, k, h3, h4, h5, h6⟩ hab
            exact ⟨h1.below (hab.mono (by have := bN.lt; omega)), (hab.block _ bT.lt).trans h2, k, h3, h4, (hab.block D (by have := bN.lt; omega)).trans h5, (hab.block _ bN.lt).trans h6⟩
          case hIx1 =>
            rintro s A B' ⟨h1, h2, k, h3, h4, h6⟩ hab
            exact h3.elim
          case hstop1 => exact fun pre X _ ⟨_, _, _, h, _⟩ => h.elim
          case hex1 => exact fun a' W h => by simpa [Exit.inBlock, Exit.noGoto] using h
          case h01 => exact ⟨st0, bT, 0, rfl, Nat.zero_le _, hK0, bN⟩
          case hdone1 =>
            rintro xs X hS ⟨h1, h2, k, h3, h4, h5, h6⟩
            have hkS : k = nw := by
              rw [h3] at hS
              simpa [upto_length] using congrArg List.length hS
            subst hkS
            exact ⟨h1, h2, h5, h6⟩
          rotate_left
          · rintro D' X hD' hK' ⟨st2, bT1, hK2, bN1⟩
            obtain ⟨t0, ft0⟩ := bT1.one
            obtain ⟨n0, fn0⟩ := bN1.one
            obtain ⟨w0, fw0⟩ := st2.b9.one
            have hsz1 : wr.heap.size + 1 < X.heap.size := bN1.lt
            go_wp2_with fail
            rw [rounds_succ]
            go_wp2_with fail
            refine (works_true _).mono ?_
            rintro e w9 ⟨rfl, kk⟩
            have b69 := (st2.b4.alloc (.cells #[.int .i64 2] 3)).keeps kk (by simp)
            obtain ⟨c6, f6⟩ := b69.one
            have hDX : D < X.heap.size := by have := bN.lt; have := bN1.lt; omega
            have hl6 : w.heap.size + 1 < B := st2.l4
            have hDD : D < D' := by have := bN.lt; simp at hD'; omega
            have hDX' : D' < X.heap.size := (Array.getElem?_eq_some_iff.1 hK').1
            have kk2 : Keeps X (w9.setCell ⟨w.heap.size + 1, 0, none⟩ (.bool true)) [w.heap.size + 1] := (((Keeps.refl X [w.heap.size + 1]).alloc _).then kk).setCell (.inr (by simp)) _
            have e1 := (kk2.block D' hDX' (by simp; omega)).trans hK'
            have e2 := (kk2.block D hDX (by simp; omega)).trans hK2
            have b6e := b69.set 0 (.bool true)
            go_wp2_with fail
            refine ⟨by simp, .inl ⟨_, _, rfl, run_takeDeferred e1, ?_⟩⟩
            refine ⟨by simp, .inl ⟨_, _, rfl, run_takeDeferred ((World.putObj_heap_other (by omega)).trans e2), ?_⟩⟩
            have hE : (((w9.setCell ⟨w.heap.size + 1, 0, none⟩ (.bool true)).putObj D' (.deferred none)).putObj D (.deferred none)).cell? ⟨w.heap.size + 1, 0, none⟩ = some (.bool true) := by
              have h1 : Blk (((w9.setCell ⟨w.heap.size + 1, 0, none⟩ (.bool true)).putObj D' (.deferred none)).putObj D (.deferred none)) (w.heap.size + 1) #[.bool true] 4 :=
                (World.putObj_heap_other (by omega)).trans ((World.putObj_heap_other (by omega)).trans b6e)
              exact h1.cell 0
            have hf : Below w.heap.size X (((w9.setCell ⟨w.heap.size + 1, 0, none⟩ (.bool true)).putObj D' (.deferred none)).putObj D (.deferred none)) :=
              ((Below.trans ⟨kk2.os, kk2.tape, kk2.output, kk2.size, fun k hk => kk2.block k (Nat.lt_of_lt_of_le hk st2.kx.size) (by simp; omega)⟩ (Turn.below e1 (by omega))).trans (Turn.below ((World.putObj_heap_other (by omega)).trans e2) (by omega)))
            exact ⟨_, res_cell Try.results10 rfl (Try.loadBool _ _ _ hE), rfl, st2.kx.below.trans hf⟩
        all_goals
          rintro l' pre x W2 hle hlt2 ⟨st2, bT2, k, rfl, hk, hkm, bN2⟩ hsp
          obtain ⟨hkl, hxx⟩ := upto_next hsp
          obtain ⟨Cn, hCn⟩ : ∃ Cn, Cn = l.count ((k + 1 : Nat) : Int) := ⟨_, rfl⟩
          have hi2 : itemM l k = (((k : Int) + 1), (Cn : Int)) := by rw [hCn]; simp [itemM]
          have HCN := Lib.hid hCn
          clear hCn
          rw [hi2] at hxx
          subst hxx
          gi_wp2
          refine ⟨Keeps.refl W2 _, fun W3 hT => ?_⟩
          have hBr : Below wr.heap.size W2 W3 := hT.below (by simp at hle; omega)
          have st3 := st2.below (hBr.mono hB)
          have bN3 := hT.blk bN2
          have bT3 := hT.blk bT2
          obtain ⟨n0, fn0⟩ := bN3.one
          obtain ⟨m0, fm0⟩ := st3.b3.one
          obtain ⟨t0, ft0⟩ := bT3.one
          obtain ⟨w0, fw0⟩ := st3.b9.one
          obtain ⟨bb', oo, rfl, hbb, e0⟩ := st3.rw.at (manyR_get (d := 1) hkl)
          have hcapw := st3.rw.cap
          rw [← HCN.out] at e0
          have hk1 : (k : Int) < (nw : Int) := by omega
          have hk0 : (0 : Int) ≤ (k : Int) := Int.natCast_nonneg _
          have hge : decide ((nw : Int) ≤ (k : Int)) = false := by simp; omega
          have hge2 : decide (nw ≤ k) = false := by simp; omega
          have hlw1 : w.heap.size < wr.heap.size := by have := st3.l3; omega
          have hlw2 : w.heap.size + 1 < wr.heap.size := by have := st3.l4; omega
          have hlw3 : w1.heap.size < wr.heap.size := by have := st3.l9; omega
          have hneq1 : (((k : Int) + 1) != ((k : Int) + 1)) = false := by simp
          have hneq2 : (Cn != Cn) = false := by simp
          have hneq3 : ((Cn : Int) != (Cn : Int)) = false := by simp
          have HI2 := Lib.hid hi2
          clear hi2 hsp hT st2 bT2 bN2 HCN
          have st4 : ∀ x, EaSt w B l T many bm bt w.heap.size (w.heap.size + 1) w1.heap.size (some ⟨bb', oo, none⟩) cw nw (W3.setCell ⟨wr.heap.size + 1, 0, none⟩ x) := fun x => st3.below ((Below.refl _ W3).setCell (p := ⟨wr.heap.size + 1, 0, none⟩) (by dsimp only; omega) _)
          have bT4 := fun x => bT3.setOther (a := ⟨wr.heap.size + 1, 0, none⟩) (by simp) x
          have bN4 := bN3.set 0 (.int .i64 ((k : Int) + 1))
          have hBr4 : ∀ x, Below wr.heap.size W3 (W3.setCell ⟨wr.heap.size + 1, 0, none⟩ x) := fun x => (Below.refl _ W3).setCell (p := ⟨wr.heap.size + 1, 0, none⟩) (by dsimp only; omega) _
          have k4 : ∀ x, Keeps W3 (W3.setCell ⟨wr.heap.size + 1, 0, none⟩ x) [wr.heap.size + 1] := fun x => (Keeps.refl W3 _).setCell (.inr (by simp)) _
          have ST4 := Lib.hid st4
          have BT4 := Lib.hid bT4
          have BR4 := Lib.hid hBr4
          have K4 := Lib.hid k4
          clear st4 bT4 hBr4 k4
          by_cases hmk : many ≤ (k : Int) + 1
          · have hdm : decide (many ≤ (k : Int) + 1) = true := by simpa using hmk
            gi_wp2
            first
              | exact ⟨K4.out _, rfl, ST4.out _, BT4.out _, k + 1, manyOf_stop hkl hkm hmk, hkl, by simpa using bN4⟩
              | exact ⟨K4.out _, ST4.out _, BT4.out _, k + 1, by rw [upto_succ, HI2.out], hkl, ((BR4.out _).block D hDc).trans ((hBr.block D hDc).trans hkm), by simpa using bN4⟩
          · have hdm : decide (many ≤ (k : Int) + 1) = false := by simpa using hmk
            gi_wp2
            first
              | exact ⟨K4.out _, ST4.out _, BT4.out _, k + 1, by rw [upto_succ, HI2.out], hkl, .inr (by omega), by simpa using bN4⟩
              | exact ⟨K4.out _, ST4.out _, BT4.out _, k + 1, by rw [upto_succ, HI2.out], hkl, ((BR4.out _).block D hDc).trans ((hBr.block D hDc).trans hkm), by simpa using bN4⟩

end Go.Proofs.Ythjbngnihcmedaa

