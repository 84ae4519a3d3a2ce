/-
  States and its iterator against the reference: for every input the law returns true and each argument reads as it read before.
-/
import Derived.Test.YtldbiohahkcpnaaR4
import Derived.Test.YtldbiohahkcpnaaR7
import Derived.Test.YtldbiohahkcpnaaRT
import Derived.Test.YtldbiohahkcpnaaRC
import Derived.Test.YtldbiohahkcpnaaRQ
import Derived.Deep.DeepCutAuto
import Derived.Deep.CutRange
namespace Go.Proofs.Ytldbiohahkcpnaa
set_option linter.unusedVariables false
set_option linter.unusedSimpArgs false
attribute [local go_sem] Oper.semAt_some
open Go.ChangeShapes Go.WideShapes Go.ChangeAt Go.RowKit Go.Joins

theorem grown_refl (w : World) (row : Option Nat) : w.grownBy w row := ⟨rfl, rfl, rfl, Nat.le_refl _, fun _ _ _ => rfl⟩

/-- append of a list's slice, nil or not, to a slice of the call's own. -/
theorem wpList_append_3 {P : Program} {w : World} {ops : Array Oper} {rest : List Oper} {o : Oper} {a : Act} {Q : Exit → Act → World → Prop} (hgd : o.guard = none) (s x : Operand) (t : TypeId)
    (ho : o.op = .call { callee := .builtin .append, args := #[s, x], argTypes := #[t, t] })
    (base : Nat) (e : TypeId) (i : TypeInfo) (z : Value) (bytes : Nat) (ht : P.underlying t = some (.slice e)) (hi : P.info? e = some i) (hz : i.zero = some z)
    (hsize : i.size = 3) (hby : i.bytes = bytes) (hzs : z.cells.size = 3)
    (v : Value) (n : Nat) (xs : List Value) (hs : a.eval s = v) (hown : w.ownsRow base e 3 v n xs) (vx : Value) (hx : a.eval x = vx) (l : List I3) (hv : Reads3 w vx l) (hcp : ∀ m cp, vx = .slice none m cp → cp = 0)
    (h63 : n + l.length ≤ maxLen) (hbytes : (n + l.length) * bytes ≤ 140737488355328) (hbase : base ≤ w.heap.size) (hne : v ≠ .slice none 0 0)
    (h : ∀ v' w', w'.ownsRow base e 3 v' (n + l.length) (xs ++ cellsL l) → w.grownBy w' v.ownBlock → v' ≠ .slice none 0 0 → wpList P ops Q rest (a.put o.dst v') w') : wpList P ops Q (o :: rest) a w := by
  obtain ⟨A0, m, cp, rfl, hm, hc⟩ := hv.form
  cases A0 with
  | none =>
    obtain ⟨rfl, rfl⟩ := hv.none
    obtain rfl := hcp _ _ rfl
    exact wpList_append_own_none hgd s x t ho base e i 3 ht hi v n xs hs hown hx (h v w (by simpa [cellsL] using hown) (grown_refl _ _) hne)
  | some ad =>
    subst hm
    exact wpList_append_own w hgd s x t ho base e i z 3 bytes ht hi hz hsize hby hzs (by decide) v n xs hs hown ad l.length cp (cellsL l) hx (cellsL_length l) hv.news (cellsL_one l) h63 hbytes hbase
      (fun v' w' h1 h2 h3 => h v' w' h1 h2 (fun e => hne (h3.1 e).1))

/-- A function value is not nil. -/
@[go_sem] theorem eq_fn_nil (f : Fn) (x y : Array Value) (w : World) : (Go.binOp .eql 54 (.func f x y) .nilFunc).run Try.prog w = .ok (.bool false) w := by
  simp only [Go.binOp, Op.equal, Op.maxDepth]
  rw [show (10000 : Nat) = 9999 + 1 from rfl, Op.equalIn]
  simp [go_sem]

/-- An empty slice literal. -/
theorem run_build0 {P : Program} (w : World) (t e : TypeId) (ie : TypeInfo) (z : Value)
    (hu : P.underlying t = some (.slice e)) (hie : P.info? e = some ie) (hz : ie.zero = some z) :
    (Instr.buildSlice t 0 #[]).run P w = .ok (.slice (some ⟨w.heap.size, 0, none⟩) 0 0) (w.alloc (.cells #[] e)) := by
  have h0 : Array.range 0 = #[] := rfl
  simp [Instr.buildSlice, run_underlying hu, sizeOf, typeInfo, zeroValue, hie, hz, newRow, Instr.fill, h0]

theorem wpList_build0 {P : Program} {ops : Array Oper} {rest : List Oper} {o : Oper} {a : Act} {w : World} {Q : Exit → Act → World → Prop} (hg : o.guard = none) (t e : TypeId) (ho : o.op = .buildSlice t 0 #[])
    (ie : TypeInfo) (z : Value) (size : Nat)
    (hu : P.underlying t = some (.slice e)) (hie : P.info? e = some ie) (hz : ie.zero = some z)
    (h : ∀ v, (w.alloc (.cells #[] e)).ownsRow w.heap.size e size v 0 [] → v.ownBlock = some w.heap.size → v ≠ .slice none 0 0 → wpList P ops Q rest (a.put o.dst v) (w.alloc (.cells #[] e))) : wpList P ops Q (o :: rest) a w := by
  refine wpList_plain hg fun K hK => ?_
  unfold Oper.wp execOp
  simp only [ho, Sem.run_bind, Array.map_empty, run_build0 w t e ie z hu hie hz, Result.andThen_ok]
  exact hK _ _ (h _ ⟨by simp, .inr ⟨_, 0, #[], rfl, Nat.le_refl _, heap_alloc_new w _, Nat.le_refl _, by decide, by simp, by simp⟩⟩ rfl (by simp))

theorem Reads3.keepsS {w w' : World} {S : List Nat} {v : Value} {l : List I3} (h : Reads3 w v l) (k : Keeps w w' S) (hn : ∀ ad n cp, v = .slice (some ad) n cp → 0 < n → ad.block ∉ S) : Reads3 w' v l := by
  obtain ⟨a, n, cp, rfl, hn', hc⟩ := h.form
  refine ⟨a, n, cp, rfl, hn', fun h0 => ?_⟩
  obtain ⟨h1, b, o, rfl, h3, h4⟩ := hc h0
  exact ⟨h1, b, o, rfl, Nat.lt_of_lt_of_le h3 k.size, fun i hi => (k.cell (p := ⟨b, o + i, Option.none⟩) h3 (fun hm => hn _ _ _ rfl h0 hm)).trans (h4 i hi)⟩

/-- What the copy of the argument is. -/
theorem goes_start {w w5 : World} {v4 v5 : Value} {x y z : Int} {many : Int} {l : List I3} (h5 : w5.ownsRow (w.heap.size + 1 + 1 + 1) 24 3 v5 (0 + l.length) ([] ++ cellsL l))
    (hg : ((((w.alloc (.cells #[.int .i64 x, .int .i64 y, .int .i64 z] 22)).alloc (.cells #[.int .i64 many] 3)).alloc (.cells #[.bool false] 4)).alloc (.cells #[] 24)).grownBy w5 v4.ownBlock) (h4 : v4.ownBlock = some (w.heap.size + 1 + 1 + 1)) (hne : v5 ≠ .slice none 0 0) :
    ∃ g cp cs, v5 = .slice (some ⟨g, 0, none⟩) l.length cp ∧ w.heap.size + 1 + 1 + 1 ≤ g ∧ g < w5.heap.size ∧ Blk w5 g cs 24 ∧ 3 * l.length ≤ cs.size ∧ Reads3 w5 v5 l ∧
      Blk w5 w.heap.size #[.int .i64 x, .int .i64 y, .int .i64 z] 22 ∧ Blk w5 (w.heap.size + 1) #[.int .i64 many] 3 ∧ Blk w5 (w.heap.size + 1 + 1) #[.bool false] 4 ∧ Keeps w w5 [] := by
  rw [Nat.zero_add, List.nil_append] at h5
  rw [h4] at hg
  have k := Keeps.of_grown (S := [w.heap.size + 1 + 1 + 1]) hg (fun k hk => by cases hk; simp)
  have hrd := owns_reads h5
  rcases h5.2 with ⟨rfl, -⟩ | ⟨g, cp, cur, rfl, hb, hblk, hn, -, hs, -⟩
  · exact (hne rfl).elim
  refine ⟨g, cp, cur, rfl, hb, (Array.getElem?_eq_some_iff.1 hblk).1, hblk, by omega, hrd, ?_, ?_, ?_, ?_⟩
  · exact ((((Blk.new w _ _).alloc _).alloc _).alloc _).keeps k (fun hm => by have := List.mem_singleton.1 hm; omega)
  · have := (((Blk.new (w.alloc (.cells #[.int .i64 x, .int .i64 y, .int .i64 z] 22)) #[.int .i64 many] 3).alloc (.cells #[.bool false] 4)).alloc (.cells #[] 24)).keeps k (by simp)
    simpa using this
  · have := ((Blk.new ((w.alloc (.cells #[.int .i64 x, .int .i64 y, .int .i64 z] 22)).alloc (.cells #[.int .i64 many] 3)) #[.bool false] 4).alloc (.cells #[] 24)).keeps k (by simp)
    simpa using this
  · exact (((((Keeps.refl w []).alloc _).alloc _).alloc _).alloc _).trans k (fun j hj hlt => by have := List.mem_singleton.1 hj; omega)

/-- What both turns keep; all of it lies below block B. -/
structure GoesSt (w : World) (B : Nat) (a b c many : Int) (l S : List I3) (ra rb r5 r6 rw : Nat) (adW ad7 : Option Addr) (cpW cp7 : Nat) (W : World) : Prop where
  kx : Keeps w W []
  ba : Blk W ra #[.int .i64 a, .int .i64 b, .int .i64 c] 22
  bb : Blk W rb #[.slice ad7 l.length cp7] 37
  b5 : Blk W r5 #[.int .i64 many] 3
  b6 : Blk W r6 #[.bool false] 4
  bw : Blk W rw #[.slice adW S.length cpW] 51
  rl : Reads3 W (.slice ad7 l.length cp7) l
  rs : Reads3 W (.slice adW S.length cpW) S
  la : ra < B
  lb : rb < B
  l5 : r5 < B
  l6 : r6 < B
  lw : rw < B
  ll : 0 < l.length → ∀ p, ad7 = some p → p.block < B
  ls : 0 < S.length → ∀ p, adW = some p → p.block < B
  w0 : w.heap.size ≤ B

theorem Reads3.below {w w' : World} {B : Nat} {v : Value} {l : List I3} (h : Reads3 w v l) (k : Below B w w') (hn : ∀ ad n cp, v = .slice (some ad) n cp → 0 < n → ad.block < B) : Reads3 w' v l := by
  obtain ⟨a, n, cp, rfl, hn', hc⟩ := h.form
  refine ⟨a, n, cp, rfl, hn', fun h0 => ?_⟩
  obtain ⟨h1, b, o, rfl, h3, h4⟩ := hc h0
  exact ⟨h1, b, o, rfl, Nat.lt_of_lt_of_le h3 k.size, fun i hi => (World.cell?_of_block (w := w) (a := ⟨b, o + i, Option.none⟩) (k.block b (hn _ _ _ rfl h0))).trans (h4 i hi)⟩

theorem GoesSt.below {w : World} {B : Nat} {a b c many : Int} {l S : List I3} {ra rb r5 r6 rw : Nat} {adW ad7 : Option Addr} {cpW cp7 : Nat} {W W' : World} (h : GoesSt w B a b c many l S ra rb r5 r6 rw adW ad7 cpW cp7 W) (k : Below B W W') :
    GoesSt w B a b c many l S ra rb r5 r6 rw adW ad7 cpW cp7 W' :=
  ⟨Keeps.of_below (h.kx.below.trans (k.mono h.w0)), (k.block _ h.la).trans h.ba, (k.block _ h.lb).trans h.bb, (k.block _ h.l5).trans h.b5, (k.block _ h.l6).trans h.b6, (k.block _ h.lw).trans h.bw,
    h.rl.below k (fun ad n cp he h0 => by cases he; exact h.ll h0 _ rfl), h.rs.below k (fun ad n cp he h0 => by cases he; exact h.ls h0 _ rfl), h.la, h.lb, h.l5, h.l6, h.lw, h.ll, h.ls, h.w0⟩

theorem Below.ofDrewN {B : Nat} {w : World} (n : Nat) : Below B w (w.drewN n) := ⟨rfl, rfl, rfl, Nat.le_refl _, fun _ _ => rfl⟩
/-- How many rounds the first turn makes. -/
def manyOf (n : Nat) (many : Int) : Int := if (n : Int) < (if 1 < many then many else 1) then n else (if 1 < many then many else 1)

theorem statesL_len : ∀ (l : List I3) (a b c : Int), (statesL a b c l).length ≤ l.length
  | [], a, b, c => by simp [statesL]
  | x :: l, a, b, c => by
    simp only [statesL]
    split
    · have := statesL_len l (toldO a b c x.1 x.2.2) (updB a b (toldK x.1 x.2.2)) (updC b c (toldK x.1 x.2.2))
      simp; omega
    · simp
theorem manyOf_stop {n k : Nat} {many : Int} (h1 : k < n) (h2 : k = 0 ∨ (k : Int) < many) (h3 : many ≤ (k : Int) + 1) : (((k + 1 : Nat) : Int)) = manyOf n many := by
  unfold manyOf
  repeat' split
  all_goals omega
theorem manyOf_done {n : Nat} {many : Int} (h2 : n = 0 ∨ (n : Int) < many) : (n : Int) = manyOf n many := by
  unfold manyOf
  repeat' split
  all_goals omega

theorem manyOf_cases {n k : Nat} {many : Int} (h : (k : Int) = manyOf n many) : (1 < many → many < (n : Int) → (k : Int) = many) ∧ (1 < many → (n : Int) ≤ many → (k : Int) = n) ∧ (many ≤ 1 → 1 < (n : Int) → (k : Int) = 1) ∧ (many ≤ 1 → (n : Int) ≤ 1 → (k : Int) = n) := by
  unfold manyOf at h
  refine ⟨?_, ?_, ?_, ?_⟩ <;> intro h1 h2 <;> repeat' split at h
  all_goals omega

set_option maxHeartbeats 4000000 in
theorem law_goes (a b c many : Int) (l : List I3) (v : Value) (w : World) (hv : Reads3 w v l) (hb : ∀ x ∈ l, x.2.2 ≤ 9223372036854775807) (hm1 : -9223372036854775808 ≤ many) (hm2 : many ≤ 9223372036854775807) (hcp : ∀ m cp, v = .slice none m cp → cp = 0) :
    Calls Try.prog 11 #[.agg #[.int .i64 a, .int .i64 b, .int .i64 c], v, .int .i64 many] w (LawEnd w) := by
  obtain ⟨A0, n, cp0, rfl, hnl, -⟩ := hv.form
  by_cases h60 : 60 < n
  · clear hv hb hnl
    have h1 : (60 : Int) < (n : Int) := by omega
    go_enter Try.func11, Try.ntmps11
    go_wp2_with fail
    refine (works_true _).mono ?_
    rintro e w5 ⟨rfl, kk⟩
    have b6 := (Blk.new ((w.alloc (.cells #[.int .i64 a, .int .i64 b, .int .i64 c] 22)).alloc (.cells #[.int .i64 many] 3)) #[.bool false] 4).keeps kk (by simp)
    obtain ⟨c6, f6⟩ := b6.one
    simp only [World.size_alloc] at c6 f6
    go_wp2
    exact bodyPost_ret (v := .bool true) (res_cell Try.results11 rfl (Try.loadBool _ _ _ (World.cell?_setCell_same' _ _ _ (by rw [c6]; rfl)))) rfl ⟨rfl, ((((((Keeps.refl w []).alloc _).alloc _).alloc _).then kk).setCell (.inl (by simp; omega)) _).below⟩
  · have hl : l.length ≤ 1000000 := by omega
    have hd : decide ((60 : Int) < (n : Int)) = false := by simp; omega
    have HV := Lib.hid hv
    have HB := Lib.hid hb
    have HN := Lib.hid hnl
    have HCP := Lib.hid hcp
    have hn6 : n ≤ 60 := by omega
    obtain ⟨i0, hi, hz0, hz1, hz2⟩ := info_parts Try.infoRaw
    clear hv hb hnl hcp
    refine calls_of_marks Try.func11 rfl ?_
    simp only [Try.ntmps11, List.size_toArray, List.length_cons, List.length_nil, Nat.reduceAdd, Nat.reduceSub, Array.replicate_succ, Array.replicate_zero, List.push_toArray, List.append_toArray, List.nil_append, List.cons_append]
    go_wp2_with (first | (with_reducible refine wpList_build0 rfl 37 24 rfl i0 _ 3 Try.underlying37 hi hz0 ?_; intro v4 hown4 hv4 hne4; simp only [World.size_alloc] at hown4 hv4) | (at_builtin; (refine (wpList_append_3 rfl (.tmp 19) (.tmp 20) 37 rfl (w.heap.size + 1 + 1 + 1) 24 i0 (.agg #[.int .i64 0, .int .i64 0, .int .i64 0]) 24 Try.underlying37 hi hz0 hz1 hz2 rfl v4 0 [] rfl hown4 (.slice A0 n cp0) rfl l (HV.out.keeps (((((Keeps.refl w []).alloc _).alloc _).alloc _).alloc _)) HCP.out (by rw [← HN.out]; unfold maxLen; omega) (by rw [← HN.out]; omega) (by simp) hne4 ?_)); intro v5 w5 hown5 hg5 hne5; obtain ⟨g, cp5, cs5, rfl, hg1, hg2, bg, hcs, rd5, b3, b5, b6, k5⟩ := goes_start hown5 hg5 hv4 hne5; clear hown5 hg5 hv4 hne4 hown4 hne5; obtain ⟨q0, q1, q2, -⟩ := b3.three))
    refine (r_all a b c l _ _ (HV.out.keeps k5) hl HB.out).mono ?_
    rintro e w6 ⟨vW, rfl, own6, k6⟩
    obtain ⟨adW, cpW, rfl⟩ := owns_form own6
    clear q0 q1 q2
    obtain ⟨q0, q1, q2, -⟩ := ((b3.keeps k6 (by simp)).alloc (.cells #[.slice adW (statesL a b c l).length cpW] 51)).three
    have l6 : w.heap.size + 1 + 1 + 1 < w6.heap.size := by have := k6.size; omega
    have l60 : w.heap.size < w6.heap.size := by omega
    generalize hS : statesL a b c l = S at *
    have HS := Lib.hid hS
    clear hS
    go_wp2_with fail
    refine (states_any a b c l _ _ _ _ ((rd5.keeps k6).keeps ((Keeps.refl w6 []).alloc (.cells #[.slice adW S.length cpW] 51))) hl).mono ?_
    rintro e w7 ⟨ra, rb, ad7, cp7, rfl, ba, bb, own7, hra, hrb, k7⟩
    clear q0 q1 q2
    go_wp2_with fail
    have rd7 := owns_reads own7
    have hn7 : ∀ p, 0 < l.length → ad7 = some p → p.block ≠ g := fun p _ hp => by
      subst hp
      have := (own7.lt _ rfl).1
      have := k6.size
      simp at *
      omega
    have rdW := ((owns_reads own6).keeps ((Keeps.refl w6 []).alloc (.cells #[.slice adW S.length cpW] 51))).keeps k7
    have hnW : ∀ p, adW = some p → p.block ≠ g := fun p hp => by
      subst hp
      have := (own6.lt _ rfl).1
      simp at *
      omega
    have kx7 : Keeps w w7 [] := ((k5.then k6).alloc _).then k7
    have bW := (Blk.new w6 #[.slice adW S.length cpW] 51).keeps k7 (by simp)
    replace b5 := ((b5.keeps k6 (by simp)).alloc (.cells #[.slice adW S.length cpW] 51)).keeps k7 (by simp)
    replace b6 := ((b6.keeps k6 (by simp)).alloc (.cells #[.slice adW S.length cpW] 51)).keeps k7 (by simp)
    replace bg := ((bg.keeps k6 (by simp)).alloc (.cells #[.slice adW S.length cpW] 51)).keeps k7 (by simp)
    have hra' : w6.heap.size < ra := by simp at hra; omega
    have hrb' : w6.heap.size < rb := by simp at hrb; omega
    have hg6 : g < w6.heap.size := by have := k6.size; omega
    clear rd5 b3 k5 k6 k7 own6 own7 hra hrb HCP HV hg2
    have HCS := Lib.hid hcs
    have HN7 := Lib.hid hn7
    have HNW := Lib.hid hnW
    have hl60 : l.length ≤ 60 := by have := HN.out; omega
    have hS60 : S.length ≤ 60 := by have := statesL_len l a b c; rw [HS.out] at this; omega
    clear hcs hn7 hnW
    go_loopw [10] (fun i wr => ∃ (k : Nat) (cs : Array Value), k ≤ l.length ∧ i = .int .i64 k ∧ Hid (3 * l.length ≤ cs.size) ∧ Blk wr g cs 24 ∧ Keeps w7 wr [g]) (fun i _ => l.length - (intOf i).toNat)
    case atStart => exact ⟨0, cs5, Nat.zero_le _, rfl, HCS, bg, Keeps.refl _ _⟩
    case round =>
      obtain ⟨k, cs, hk, rfl, hcs, bgr, kr⟩ := hrel
      by_cases hlt : k < l.length
      · have hc := bgr.cell (k * 3 + 2)
        have hf := bgr.frozen (k * 3 + 2)
        have hsz : k * 3 + 2 < cs.size := by have := hcs.out; omega
        rw [Array.getElem?_eq_getElem hsz] at hc
        have hlti : (k : Int) < (l.length : Int) := by omega
        go_wp2_with fail
        go_roundw
        case rel => exact ⟨k + 1, _, hlt, by go_num, by show _ ≤ _; simp; exact hcs.out, bgr.set _ _, kr.setCell (.inr (by simp)) _⟩
        case measure => simp [intOf]; omega
      · have : k = l.length := by omega
        subst this
        have rdr := rd7.keepsS kr (fun ad n cp he h0 hm => HN7.out ad (by cases he; exact h0) (by cases he; rfl) (List.mem_singleton.1 hm))
        have rdv := rdW.keepsS kr (fun ad n cp he h0 hm => HNW.out ad (by cases he; rfl) (List.mem_singleton.1 hm))
        have bW1 := bW.keeps kr (fun hm => by have := List.mem_singleton.1 hm; omega)
        have b51 := b5.keeps kr (fun hm => by have := List.mem_singleton.1 hm; omega)
        have b61 := b6.keeps kr (fun hm => by have := List.mem_singleton.1 hm; omega)
        have ba1 := ba.keeps kr (fun hm => by have := List.mem_singleton.1 hm; omega)
        have bb1 := bb.keeps kr (fun hm => by have := List.mem_singleton.1 hm; omega)
        have kx1 : Keeps w wr [] := kx7.trans kr (fun x hx hlt => by have := List.mem_singleton.1 hx; omega)
        have hsw : w6.heap.size < wr.heap.size := bW1.lt
        clear rd7 rdW bW b5 b6 ba bb kx7 bg bgr kr hcs HCS
        have hlS : ∀ p, 0 < S.length → adW = some p → p.block < wr.heap.size := fun p h0 hp => by
          subst hp
          exact rdv.lt h0
        have hll : ∀ p, 0 < l.length → ad7 = some p → p.block < wr.heap.size := fun p h0 hp => by
          subst hp
          exact rdr.lt h0
        have st : GoesSt w wr.heap.size a b c many l S ra rb (w.heap.size + 1) (w.heap.size + 1 + 1) w6.heap.size adW ad7 cpW cp7 wr :=
          ⟨kx1, ba1, bb1, b51, b61, bW1, rdr, rdv, ba1.lt, bb1.lt, b51.lt, b61.lt, bW1.lt, fun h0 p hp => hll p h0 hp, fun h0 p hp => hlS p h0 hp, by have := kx1.size; omega⟩
        obtain ⟨B, st, hB⟩ : ∃ B, GoesSt w B a b c many l S ra rb (w.heap.size + 1) (w.heap.size + 1 + 1) w6.heap.size adW ad7 cpW cp7 wr ∧ B ≤ wr.heap.size := ⟨_, st, Nat.le_refl _⟩
        clear hlS hll kx1 ba1 bb1 b51 b61 bW1 rdr rdv hlt HN7 HNW
        go_wp2_with fail
        refine wp_loop_rounds 3 ?_
        rw [rounds_succ]
        go_wp2_with fail
        have st0 : GoesSt w B a b c many l S ra rb (w.heap.size + 1) (w.heap.size + 1 + 1) w6.heap.size adW ad7 cpW cp7 ((wr.alloc (.cells #[.int .i64 0] 3)).alloc (.cells #[.int .i64 0] 3)) := st.below (((Below.refl _ wr).alloc hB _).alloc (by simp; omega) _)
        have bT := (Blk.new wr #[.int .i64 0] 3).alloc (.cells #[.int .i64 0] 3)
        have bN := Blk.new (wr.alloc (.cells #[.int .i64 0] 3)) #[.int .i64 0] 3
        simp only [World.size_alloc] at bN
        refine range_PX (gf := 41) (lb := #[.pointer (some ⟨ra, 0, none⟩), .pointer (some ⟨rb, 0, none⟩)]) rfl (enters_of Try.func41 (by kernel_rfl) rfl)
          (states1 a b c ra rb ad7 l.length cp7 l _ st0.ba st0.bb st0.rl hl HB.out) [wr.heap.size + 1] ?hC ?hfine (fun _ => rfl) 4
          (fun pre X => GoesSt w B a b c many l S ra rb (w.heap.size + 1) (w.heap.size + 1 + 1) w6.heap.size adW ad7 cpW cp7 X ∧ Blk X wr.heap.size #[.int .i64 0] 3 ∧ ∃ k : Nat, pre = upto (itemAt S) k ∧ k ≤ S.length ∧ (k = 0 ∨ (k : Int) < many) ∧ Blk X (wr.heap.size + 1) #[.int .i64 k] 3)
          (fun pre X => GoesSt w B a b c many l S ra rb (w.heap.size + 1) (w.heap.size + 1 + 1) w6.heap.size adW ad7 cpW cp7 X ∧ Blk X wr.heap.size #[.int .i64 0] 3 ∧ ∃ k : Nat, (k : Int) = manyOf S.length many ∧ k ≤ S.length ∧ Blk X (wr.heap.size + 1) #[.int .i64 k] 3)
          (fun X => GoesSt w B a b c many l S ra rb (w.heap.size + 1) (w.heap.size + 1 + 1) w6.heap.size adW ad7 cpW cp7 X ∧ Blk X wr.heap.size #[.int .i64 0] 3 ∧ ∃ k : Nat, (k : Int) = manyOf S.length many ∧ k ≤ S.length ∧ Blk X (wr.heap.size + 1) #[.int .i64 k] 3)
          ?hI ?hIx ?h0 ?hround ?hdone ?hstop ?hex ?hrest
        case hC => intro x hx; have := List.mem_singleton.1 hx; subst this; exact ⟨bN.lt, fun h0 p hp he => by have := st0.ll h0 p hp; omega⟩
        case hfine => exact fun h0 p hp he => by have := st0.ll h0 p hp; have := bN.lt; omega
        case hI =>
          rintro s A B' ⟨h1, h2, k, h3, h4, h5, h6⟩ hab
          exact ⟨h1.below (hab.mono (by have := bN.lt; omega)), (hab.block _ bT.lt).trans h2, k, h3, h4, h5, (hab.block _ bN.lt).trans h6⟩
        case hIx =>
          rintro s A B' ⟨h1, h2, k, h3, h4, h6⟩ hab
          exact ⟨h1.below (hab.mono (by have := bN.lt; omega)), (hab.block _ bT.lt).trans h2, k, h3, h4, (hab.block _ bN.lt).trans h6⟩
        case hstop => exact fun pre X _ h => h
        case hex => exact fun a' W h => by simpa [Exit.inBlock, Exit.noGoto] using h
        case h0 => exact ⟨st0, bT, 0, rfl, Nat.zero_le _, .inl rfl, bN⟩
        case hdone =>
          rintro xs X hS ⟨h1, h2, k, h3, h4, h5, h6⟩
          have hkS : k = S.length := by
            rw [HS.out, h3] at hS
            simpa [upto_length] using congrArg List.length hS
          exact ⟨h1, h2, k, by rw [hkS]; exact manyOf_done (by rw [← hkS]; exact h5), h4, h6⟩
        rotate_left
        focus
          rintro D X hD hK ⟨st1, bT1, k, hkm, hkl, bN1⟩
          obtain ⟨t0, ft0⟩ := bT1.one
          obtain ⟨n0, fn0⟩ := bN1.one
          obtain ⟨m0, fm0⟩ := st1.b5.one
          obtain ⟨w0, fw0⟩ := st1.bw.one
          have hsz1 : wr.heap.size + 1 < X.heap.size := bN1.lt
          have HK := Lib.hid hkm
          clear hkm
          focus
            go_upto_region 23 with fail
            go_cut [93] from 73 to 93 (fun s93 wx => s93 = .bool false ∧ wx = X)
            case first =>
              go_wp2_with fail
              all_goals
                go_meet
                first
                  | exact ⟨rfl, rfl⟩
                  | (exfalso; obtain ⟨z1, z2, z3, z4⟩ := manyOf_cases HK.out; omega)
          obtain ⟨rfl, rfl⟩ := hcut
          go_wp2_with fail
          rw [rounds_succ]
          go_wp2_with fail
          have hB1 : B ≤ wc.heap.size := by omega
          have hDc : D < wc.heap.size := (Array.getElem?_eq_some_iff.1 hK).1
          have hDB : B ≤ D := by simp at hD; omega
          clear t0 n0 m0 w0 ft0 fn0 fm0 fw0 bT1 bN1 bT bN st st0 HK hkl hB hD hsz1
          obtain ⟨wr, rfl⟩ : ∃ wr, wr = wc := ⟨_, rfl⟩
          have st0 : GoesSt w B a b c many l S ra rb (w.heap.size + 1) (w.heap.size + 1 + 1) w6.heap.size adW ad7 cpW cp7 ((wr.alloc (.cells #[.int .i64 1] 3)).alloc (.cells #[.int .i64 0] 3)) := st1.below (((Below.refl _ wr).alloc hB1 _).alloc (by simp; omega) _)
          have hK0 : ((wr.alloc (.cells #[.int .i64 1] 3)).alloc (.cells #[.int .i64 0] 3)).heap[D]? = some (.deferred (some [])) := ((((Below.refl wr.heap.size wr).alloc (Nat.le_refl _) _).alloc (by simp) _).block D hDc).trans hK
          have bT := (Blk.new wr #[.int .i64 1] 3).alloc (.cells #[.int .i64 0] 3)
          have bN := Blk.new (wr.alloc (.cells #[.int .i64 1] 3)) #[.int .i64 0] 3
          simp only [World.size_alloc] at bN
          refine range_PX (gf := 41) (lb := #[.pointer (some ⟨ra, 0, none⟩), .pointer (some ⟨rb, 0, none⟩)]) rfl (enters_of Try.func41 (by kernel_rfl) rfl)
            (states1 a b c ra rb ad7 l.length cp7 l _ st0.ba st0.bb st0.rl hl HB.out) [wr.heap.size + 1] ?hC1 ?hfine1 (fun _ => rfl) 4
            (fun pre X => GoesSt w B a b c many l S ra rb (w.heap.size + 1) (w.heap.size + 1 + 1) w6.heap.size adW ad7 cpW cp7 X ∧ Blk X wr.heap.size #[.int .i64 1] 3 ∧ ∃ k : Nat, pre = upto (itemAt S) k ∧ k ≤ S.length ∧ X.heap[D]? = some (.deferred (some [])) ∧ Blk X (wr.heap.size + 1) #[.int .i64 k] 3)
            (fun pre X => GoesSt w B a b c many l S ra rb (w.heap.size + 1) (w.heap.size + 1 + 1) w6.heap.size adW ad7 cpW cp7 X ∧ Blk X wr.heap.size #[.int .i64 1] 3 ∧ ∃ k : Nat, False ∧ k ≤ S.length ∧ Blk X (wr.heap.size + 1) #[.int .i64 k] 3)
            (fun X => GoesSt w B a b c many l S ra rb (w.heap.size + 1) (w.heap.size + 1 + 1) w6.heap.size adW ad7 cpW cp7 X ∧ Blk X wr.heap.size #[.int .i64 1] 3 ∧ X.heap[D]? = some (.deferred (some [])) ∧ Blk X (wr.heap.size + 1) #[.int .i64 S.length] 3)
            ?hI1 ?hIx1 ?h01 ?hround1 ?hdone1 ?hstop1 ?hex1 ?hrest1
          case hC1 => intro x hx; have := List.mem_singleton.1 hx; subst this; exact ⟨bN.lt, fun h0 p hp he => by have := st0.ll h0 p hp; omega⟩
          case hfine1 => exact fun h0 p hp he => by have := st0.ll h0 p hp; have := bN.lt; omega
          case hI1 =>
            rintro s A B' ⟨h1, h2, k, h3, h4, h5, h6⟩ hab
            exact ⟨h1.below (hab.mono (by have := bN.lt; omega)), (hab.block _ bT.lt).trans h2, k, h3, h4, (hab.block D (by have := bN.lt; omega)).trans h5, (hab.block _ bN.lt).trans h6⟩
          case hIx1 =>
            rintro s A B' ⟨h1, h2, k, h3, h4, h6⟩ hab
            exact h3.elim
          case hstop1 => exact fun pre X _ ⟨_, _, _, h, _⟩ => h.elim
          case hex1 => exact fun a' W h => by simpa [Exit.inBlock, Exit.noGoto] using h
          case h01 => exact ⟨st0, bT, 0, rfl, Nat.zero_le _, hK0, bN⟩
          case hdone1 =>
            rintro xs X hS ⟨h1, h2, k, h3, h4, h5, h6⟩
            have hkS : k = S.length := by
              rw [HS.out, h3] at hS
              simpa [upto_length] using congrArg List.length hS
            subst hkS
            exact ⟨h1, h2, h5, h6⟩
          rotate_left
          · rintro D' X hD' hK' ⟨st2, bT1, hK2, bN1⟩
            obtain ⟨t0, ft0⟩ := bT1.one
            obtain ⟨n0, fn0⟩ := bN1.one
            obtain ⟨w0, fw0⟩ := st2.bw.one
            have hsz1 : wr.heap.size + 1 < X.heap.size := bN1.lt
            go_wp2_with fail
            rw [rounds_succ]
            go_wp2_with fail
            refine (works_true _).mono ?_
            rintro e w9 ⟨rfl, kk⟩
            have b69 := (st2.b6.alloc (.cells #[.int .i64 2] 3)).keeps kk (by simp)
            obtain ⟨c6, f6⟩ := b69.one
            have hDX : D < X.heap.size := by have := bN.lt; have := bN1.lt; omega
            have hl6 : w.heap.size + 1 + 1 < B := st2.l6
            have hDD : D < D' := by have := bN.lt; simp at hD'; omega
            have hDX' : D' < X.heap.size := (Array.getElem?_eq_some_iff.1 hK').1
            have kk2 : Keeps X (w9.setCell ⟨w.heap.size + 1 + 1, 0, none⟩ (.bool true)) [w.heap.size + 1 + 1] := (((Keeps.refl X [w.heap.size + 1 + 1]).alloc _).then kk).setCell (.inr (by simp)) _
            have e1 := (kk2.block D' hDX' (by simp; omega)).trans hK'
            have e2 := (kk2.block D hDX (by simp; omega)).trans hK2
            have b6e := b69.set 0 (.bool true)
            go_wp2_with fail
            refine ⟨by simp, .inl ⟨_, _, rfl, run_takeDeferred e1, ?_⟩⟩
            refine ⟨by simp, .inl ⟨_, _, rfl, run_takeDeferred ((World.putObj_heap_other (by omega)).trans e2), ?_⟩⟩
            have hE : (((w9.setCell ⟨w.heap.size + 1 + 1, 0, none⟩ (.bool true)).putObj D' (.deferred none)).putObj D (.deferred none)).cell? ⟨w.heap.size + 1 + 1, 0, none⟩ = some (.bool true) := by
              have h1 : Blk (((w9.setCell ⟨w.heap.size + 1 + 1, 0, none⟩ (.bool true)).putObj D' (.deferred none)).putObj D (.deferred none)) (w.heap.size + 1 + 1) #[.bool true] 4 :=
                (World.putObj_heap_other (by omega)).trans ((World.putObj_heap_other (by omega)).trans b6e)
              exact h1.cell 0
            have hf : Below w.heap.size X (((w9.setCell ⟨w.heap.size + 1 + 1, 0, none⟩ (.bool true)).putObj D' (.deferred none)).putObj D (.deferred none)) :=
              ((Below.trans ⟨kk2.os, kk2.tape, kk2.output, kk2.size, fun k hk => kk2.block k (Nat.lt_of_lt_of_le hk st2.kx.size) (by simp; omega)⟩ (Turn.below e1 (by omega))).trans (Turn.below ((World.putObj_heap_other (by omega)).trans e2) (by omega)))
            exact ⟨_, res_cell Try.results11 rfl (Try.loadBool _ _ _ hE), rfl, st2.kx.below.trans hf⟩
        all_goals
          rintro l' pre x W2 hle hlt2 ⟨st2, bT2, k, rfl, hk, hkm, bN2⟩ hsp
          rw [HS.out] at hsp
          obtain ⟨hkl, hxx⟩ := upto_next hsp
          obtain ⟨⟨x0, x1, x2⟩, hx⟩ : ∃ x, S[k]? = some x := ⟨_, List.getElem?_eq_getElem hkl⟩
          have hi2 : itemAt S k = (k, (x0, x1, x2)) := by simp [itemAt, hx]
          rw [hi2] at hxx
          subst hxx
          gi_wp2
          refine ⟨(Keeps.refl W2 _).alloc _, fun W3 hT => ?_⟩
          have hszT := hT.size
          rw [World.size_alloc] at hszT
          have hB3 : Below B W2 W3 := ((Below.refl _ W2).alloc (by have := bN2.lt; omega) _).trans (hT.below (by simp at hle; omega))
          have hsz2 : wr.heap.size + 2 ≤ W2.heap.size := bN2.lt
          have bx := hT.blk (Blk.new W2 #[.int .i64 x0, .int .i64 x1, .int .i64 x2] 22)
          have bN3 := hT.blk (bN2.alloc (.cells #[.int .i64 x0, .int .i64 x1, .int .i64 x2] 22))
          have bT3 := hT.blk (bT2.alloc (.cells #[.int .i64 x0, .int .i64 x1, .int .i64 x2] 22))
          have st3 := st2.below hB3
          have hBr : Below wr.heap.size W2 W3 := ((Below.refl _ W2).alloc (by have := bN2.lt; omega) _).trans (hT.below (by simp at hle; omega))
          obtain ⟨d0, d1, d2, -⟩ := bx.three
          obtain ⟨n0, fn0⟩ := bN3.one
          obtain ⟨m0, fm0⟩ := st3.b5.one
          obtain ⟨t0, ft0⟩ := bT3.one
          obtain ⟨w0, fw0⟩ := st3.bw.one
          obtain ⟨bb, oo, rfl, hbb, e0, e1, e2⟩ := st3.rs.at hx
          dsimp only at e0 e1 e2
          have hk1 : (k : Int) < (S.length : Int) := by omega
          have hk0 : (0 : Int) ≤ (k : Int) := Int.natCast_nonneg _
          have hge : decide ((S.length : Int) ≤ (k : Int)) = false := by simp; omega
          have hkk : ((k : Int) != (k : Int)) = false := by simp
          have HX := Lib.hid hx
          have HI2 := Lib.hid hi2
          clear hx hi2 hszT hT st2 bT2 bN2 hsp hB3
          gi_wp2
          refine region_in_round (by kernel_rfl) (by kernel_rfl) (by kernel_rfl) ?_
          repeat (any_goals (first | go_big_quiet_step (fail) | quiet_step (fail)))
          refine wpQuiet_nil ?_
          intro _ hw'
          obtain ⟨nq, hw''⟩ := hw'
          subst hw''
          have hB4 : Below B W3 ((W3.drewN nq).setCell ⟨wr.heap.size + 1, 0, none⟩ (.int .i64 ((k : Int) + 1))) := (Below.ofDrewN nq).setCell (p := ⟨wr.heap.size + 1, 0, none⟩) (by dsimp only; omega) _
          have bN4 := (bN3.drewN nq).set 0 (.int .i64 ((k : Int) + 1))
          have bT4 := (bT3.drewN nq).setOther (a := ⟨wr.heap.size + 1, 0, none⟩) (by simp) (.int .i64 ((k : Int) + 1))
          have st4 := st3.below hB4
          have hBr4 : Below wr.heap.size W3 ((W3.drewN nq).setCell ⟨wr.heap.size + 1, 0, none⟩ (.int .i64 ((k : Int) + 1))) := (Below.ofDrewN nq).setCell (p := ⟨wr.heap.size + 1, 0, none⟩) (by dsimp only; omega) _
          have k4 : Keeps W3 ((W3.drewN nq).setCell ⟨wr.heap.size + 1, 0, none⟩ (.int .i64 ((k : Int) + 1))) [wr.heap.size + 1] := ((Keeps.refl W3 _).drewN nq).setCell (.inr (by simp)) _
          by_cases hmk : many ≤ (k : Int) + 1
          · have hdm : decide (many ≤ (k : Int) + 1) = true := by simpa using hmk
            gi_wp2
            first
              | exact ⟨k4, rfl, st4, bT4, k + 1, manyOf_stop hkl hkm hmk, hkl, by simpa using bN4⟩
              | exact ⟨k4, st4, bT4, k + 1, by rw [upto_succ, HI2.out], hkl, (hBr4.block D hDc).trans ((hBr.block D hDc).trans hkm), by simpa using bN4⟩
          · have hdm : decide (many ≤ (k : Int) + 1) = false := by simpa using hmk
            gi_wp2
            first
              | exact ⟨k4, st4, bT4, k + 1, by rw [upto_succ, HI2.out], hkl, .inr (by omega), by simpa using bN4⟩
              | exact ⟨k4, st4, bT4, k + 1, by rw [upto_succ, HI2.out], hkl, (hBr4.block D hDc).trans ((hBr.block D hDc).trans hkm), by simpa using bN4⟩

/-- A slice that is nil has no capacity. -/
theorem open_nil0 {H : Type} {enc : TypeId × Value → H} {P : Program} {w : World} {ts t : TypeId} {v : Value} {d : DataW H} {p : List MemPlace} (hts : P.underlying ts = some (.slice t))
    (hv : v.cells.toList = [v]) (h : DataW.Trod enc P w 0 (fun _ => true) true ts v d p) : ∀ m cp, v = .slice none m cp → cp = 0 := by
  obtain ⟨fuel, hf⟩ := h
  rw [hv] at hf
  intro m cp he
  rcases Go.Deep.open_slice hts hf with ⟨hcs, hx⟩ | ⟨a, len, cap, m', n, D, Pl, hcs, -⟩
  · simp at hcs
    rw [he] at hcs
    cases hcs
    rfl
  · simp at hcs
    rw [he] at hcs
    cases hcs

set_option maxRecDepth 100000 in
theorem repeatGoes_lifted (os : Os) (started : os.Started) (H : Type) (enc : TypeId × Value → H) :
    ReturnsInHanded {} Try.checked os 11 .any (Rows.repeatGoesSpec.pre6 enc Try.prog Try.f11 Rows.repeatGoesRow.domain false) (Rows.repeatGoesSpec.post enc Try.prog Try.f11 false true false false) :=
  returnsInHanded_of_change (C := Try.checked) Try.own started (by kernel_rfl) Try.func11
    (ChangeSpec.witness6 (enc := enc) (C := Try.checked) false ⟨#[], #[.agg #[.int .i64 0, .int .i64 0, .int .i64 0], .slice none 0 0, .int .i64 0], []⟩ 8 (by kernel_rfl) (by kernel_rfl) (by kernel_rfl) (by kernel_rfl))
    (law_contract (C := Try.checked) Try.laidOut rfl
      (fun ds hd => by
        match ds, hd with
        | [d1, d2, d3], _ => rfl)
      (fun t ht => by
        have : t = 22 ∨ t = 37 ∨ t = 3 := by simpa [Try.params11] using ht
        rcases this with rfl | rfl | rfl <;> exact ⟨by kernel_rfl, of_decide_eq_true (by kernel_rfl)⟩)
      (tb := 4) rfl Try.underlying4
      (fun W base args ds ps hval0 hA0 hlt hnf => by
        have hval : ∀ (j : Nat) t v, Try.f11.params[j]? = some t → args[j]? = some v → Value.okWide Try.prog W .any base t v := hval0
        have hA : DataW.TrodAll enc Try.prog W 0 (fun _ => true) true Try.f11.params.toList args.toList ds ps := hA0
        rw [Try.params11] at hA hval
        obtain ⟨v0, v1, v2, d0, d1, d2, p0, p1, p2, rfl, rfl, rfl, h0, h1, h2⟩ := trodAll_three hA
        obtain ⟨a, b, c, rfl, -⟩ := open_arr3 Try.underlying22 Try.underlying3 (by kernel_rfl) (by kernel_rfl) (hval 0 22 v0 rfl rfl) h0
        have hc1 := slice_cells Try.underlying37 (hval 1 37 v1 rfl rfl)
        obtain ⟨l, hrd, hb⟩ := open_list3 Try.underlying37 Try.underlying24 Try.underlying3 (by kernel_rfl) (by kernel_rfl) rfl rfl rfl rfl rfl rfl hc1 h1
        have hcp := open_nil0 Try.underlying37 hc1 h1
        obtain ⟨m, rfl, -, -, hm⟩ := open_int Try.underlying3 (hval 2 3 v2 rfl rfl) h2
        exact law_goes a b c m l v1 W hrd hb (int_bounds hm).1 (int_bounds hm).2 hcp))

theorem repeatGoes_holds : Rows.RepeatGoesSaid :=
  OpenClaim.holds_of_wide 11 Try.f11 rfl rfl rfl rfl rfl rfl rfl ⟨rfl, rfl, rfl, rfl, rfl⟩ rfl rfl rfl rfl rfl (by kernel_rfl) Try.func11 (by kernel_rfl)
    (of_decide_eq_true (by kernel_rfl)) (by unfold Func.isWrapper; first | (rw [if_pos (by decide +kernel)]; kernel_rfl) | (rw [if_neg (by decide +kernel)]; exact ⟨rfl, rfl⟩))
    (fun os started H enc _ => repeatGoes_lifted os started H enc)

#print axioms repeatGoes_holds

end Go.Proofs.Ytldbiohahkcpnaa
