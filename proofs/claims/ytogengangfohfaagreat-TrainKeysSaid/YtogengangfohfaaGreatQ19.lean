/-
  Walks over package train: Segments.
  The queue as train.Content uses it: what Push and next leave as it was.
  Walks over package train: Content where an argument is bad.
  Steps of a region that draws its order: a slice literal without elements; append of a slice of numbers, nil or not, to a slice of the call's own. No program is in sight here.
  append where the first slice is full: a piece ahead of what was collected.
-/
import Derived.Test.YtogengangfohfaaGreatQ18
import Derived.Test.YtogengangfohfaaGreatQ17
import Derived.Test.YtogengangfohfaaGreatQ9
import Derived.Deep.RegionHeld3
import Derived.Deep.RegionLaw
import Derived.ArgAppend
namespace Go.Proofs.YtogengangfohfaaGreat
section
set_option linter.unusedVariables false
set_option linter.unusedSimpArgs false
set_option linter.unusedSectionVars false
open Go.RowKit

/-- How Segments ends. -/
def SegEnd (w : World) (l : List (List Int)) (e : Ending) (w' : World) : Prop := Keeps w w' [] ∧
  ((mayL l ∧ ∃ v' vs', e = .returned (.tuple #[v', .int .i64 0]) ∧ OwnV w' w.heap.size v' vs' ∧ PcV w' vs' (piecesL l)) ∨ (¬ mayL l ∧ e = .returned (.tuple #[.slice none 0 0, .int .i64 2])))

set_option maxRecDepth 100000 in
set_option maxHeartbeats 1000000 in
theorem seg_any (v : Value) (l : List (List Int)) (w : World) (hv : RdL .u8 w v l) (hll : l.length ≤ 1000000000) :
    Calls Tryz.prog 17 #[v] w (SegEnd w l) := by
  have hmf : ∀ (fn : Fn) (first cap : Array Value) (w : World), (Instr.makeFunc fn first cap).run Tryz.prog w = .ok (.func fn first cap) w := fun _ _ _ _ => rfl
  have k0 : Keeps w ((w.alloc (.cells #[.slice none 0 0] 22)).alloc (.cells #[.int .i64 0] 34)) [] := ((Keeps.refl w []).alloc _).alloc _
  have bo := (Blk.new w #[.slice none 0 0] 22).alloc (.cells #[.int .i64 0] 34)
  have be := Blk.new (w.alloc (.cells #[.slice none 0 0] 22)) #[.int .i64 0] 34
  have hsz : ((w.alloc (.cells #[.slice none 0 0] 22)).alloc (.cells #[.int .i64 0] 34)).heap.size = w.heap.size + 2 := by simp
  simp only [World.size_alloc] at be
  have hv0 := hv.keeps k0
  have HO := Lib.hid (of_any v l _ hv0 hll)
  have HV := Lib.hid hv
  have HZ := Lib.hid hsz
  obtain ⟨A1, n1, cp1, rfl, -, -⟩ := hv.form
  have hfl := fun w => Tryz.fieldLook (.slice A1 n1 cp1) w rfl
  clear hv hv0 hsz
  go_enter_defers Tryz.func17, Tryz.ntmps17
  go_wp2_with fail
  generalize ((w.alloc (.cells #[.slice none 0 0] 22)).alloc (.cells #[.int .i64 0] 34)) = W0 at *
  refine HO.out.mono ?_
  rintro e w1 ⟨k1, (⟨hm, rfl⟩ | ⟨hm, rfl⟩)⟩
  · replace bo := bo.keeps k1 (by simp)
    replace be := be.keeps k1 (by simp)
    replace k0 := k0.then k1
    have HK := Lib.hid (pieces_any _ l w1 (HV.out.keeps k0) hm.1 hm.2)
    have HM := Lib.hid hm
    have hs1 : w.heap.size + 2 ≤ w1.heap.size := by have := k1.size; rw [HZ.out] at this; exact this
    clear k1 HO hm
    go_wp2_with fail
    refine HK.out.mono ?_
    rintro e w2 ⟨v2, us, rfl, ow, pc, k2⟩
    replace bo := bo.keeps k2 (by simp)
    replace be := be.keeps k2 (by simp)
    replace k0 := k0.then k2
    clear k2 HK
    obtain ⟨a2, c2, rfl⟩ := own_form ow
    obtain ⟨e0, e1⟩ := be.one
    obtain ⟨o0, o1⟩ := bo.one
    have OW := Lib.hid ow
    have PC := Lib.hid pc
    have BO := Lib.hid bo
    have BE := Lib.hid be
    clear ow pc bo be
    go_wp2_with fail
    refine leaves_cons (f := 42) (args := #[.pointer (some ⟨w.heap.size + 1, 0, none⟩), .func (.func 47) #[] #[.pointer (some ⟨w.heap.size, 0, none⟩)]]) (by simp) (by simp [go_sem]) ?_
    refine (tcaught_idle _ _ _).mono ?_
    rintro e u' w'' ⟨rfl, rfl, rfl⟩
    refine ⟨.tuple #[.slice a2 us.length c2, .int .i64 0], by simp only [results, Tryz.results17]; go_simp, ?_⟩
    have hk : ∀ w3, Keeps w2 w3 [w.heap.size, w.heap.size + 1] → SegEnd w l (.returned (.tuple #[.slice a2 us.length c2, .int .i64 0])) w3 := fun w3 k => by
      refine ⟨k0.trans k (fun j hj hlt => by simp at hj; omega), .inl ⟨HM.out, _, us, rfl, ?_, ?_⟩⟩
      · exact own_base (own_keepsS OW.out k (fun j hj => by simp at hj; omega)) (by omega)
      · refine PC.out.keeps k (fun x hx cs hcs => ?_)
        simp at hx
        rcases hx with rfl | rfl
        · have h1 := BO.out.symm.trans hcs; cases h1
        · have h1 := BE.out.symm.trans hcs; cases h1
    refine hk _ ?_
    repeat (first | exact Keeps.refl _ _ | refine Keeps.setCell' (.inr (by simp)) ?_)
  · replace bo := bo.keeps k1 (by simp)
    replace be := be.keeps k1 (by simp)
    replace k0 := k0.then k1
    have HM := Lib.hid hm
    clear k1 HO hm
    obtain ⟨e0, e1⟩ := be.one
    obtain ⟨o0, o1⟩ := bo.one
    go_wp2_with fail
    refine leaves_cons (f := 42) (args := #[.pointer (some ⟨w.heap.size + 1, 0, none⟩), .func (.func 47) #[] #[.pointer (some ⟨w.heap.size, 0, none⟩)]]) (by simp) (by simp [go_sem]) ?_
    refine (tcaught_segs _ _ 2 _ _ _ _ [] _ be bo (by omega)).mono ?_
    rintro e u' w'' ⟨rfl, rfl, rfl⟩
    refine ⟨.tuple #[.slice none 0 0, .int .i64 2], by simp only [results, Tryz.results17]; go_simp, ?_⟩
    refine ⟨?_, .inr ⟨HM.out, rfl⟩⟩
    exact Keeps.setCell' (.inl (by dsimp only; omega)) (Keeps.setCell' (.inl (by dsimp only; omega)) k0)
end

section
set_option linter.unusedVariables false
set_option linter.unusedSimpArgs false
set_option linter.unusedSectionVars false
open Go.RowKit

/-- The queue at the cell p, both of its blocks at B or behind it. -/
structure QL (pv : Int → Value) (B : Nat) (w : World) (p : Nat) (q : List It) : Prop where
  ex : ∃ g c, Blk w p #[.slice (some ⟨g, 0, none⟩) q.length c] 95 ∧ RowQ pv 0 w g q.length c q ∧ B ≤ g
  ge : B ≤ p
/-- Of the old blocks only the queue's cell and rows of items have changed, and none ahead of B. -/
def KQ (B : Nat) (w w' : World) : Prop := ∃ S, Keeps w w' S ∧ (∀ k ∈ S, ∀ o, w.heap[k]? = some o → (∃ cs, o = .cells cs 95 (0, 0)) ∨ (∃ cs, o = .cells cs 98 (0, 0))) ∧ ∀ k ∈ S, B ≤ k
section
variable {pv : Int → Value} {B : Nat} {w w' w'' : World} {p : Nat} {q : List It}
theorem KQ.keep (h : Keeps w w' []) : KQ B w w' := ⟨[], h, (by intro _ h; cases h), (by intro _ h; cases h)⟩
theorem KQ.size (h : KQ B w w') : w.heap.size ≤ w'.heap.size := by obtain ⟨S, h1, -⟩ := h; exact h1.size
theorem KQ.blk (h : KQ B w w') {b : Nat} {cs : Array Value} {T : TypeId} (hb : Blk w b cs T) (h1 : T ≠ 95) (h2 : T ≠ 98) : Blk w' b cs T := by
  obtain ⟨S, k, n, -⟩ := h
  refine hb.keeps k (fun hm => ?_)
  rcases n b hm _ hb with ⟨cs', e⟩ | ⟨cs', e⟩ <;> cases e
  · exact h1 rfl
  · exact h2 rfl
theorem KQ.map (h : KQ B w w') {m n : Nat} {f : List Int → Option Int} (hm : MapS w m n f) : MapS w' m n f := by
  obtain ⟨S, k, nq, -⟩ := h
  refine hm.keeps k (fun hx => ?_)
  obtain ⟨D, ⟨es, clock, hb, r⟩, h2⟩ := hm
  rcases nq m hx _ hb with ⟨cs', e⟩ | ⟨cs', e⟩ <;> cases e
theorem KQ.noB {S : List Nat} (n : ∀ k ∈ S, ∀ o, w.heap[k]? = some o → (∃ cs, o = .cells cs 95 (0, 0)) ∨ (∃ cs, o = .cells cs 98 (0, 0))) : NoB w S := fun g hg cs hb => by
  rcases n g hg _ hb with ⟨cs', e⟩ | ⟨cs', e⟩ <;> cases e
theorem KQ.pc (h : KQ B w w') {vs : List Value} {ls : List (List Int)} (hp : PcV w vs ls) : PcV w' vs ls := by
  obtain ⟨S, k, n, -⟩ := h
  exact hp.keeps k (KQ.noB n)
theorem KQ.rd (h : KQ B w w') {v : Value} {l : List Int} (hr : RdI .u8 w v l) (hb : InB w v) : RdI .u8 w' v l ∧ InB w' v := by
  obtain ⟨S, k, n, -⟩ := h
  exact ⟨hr.keepsB hb k (KQ.noB n), hb.keeps k (KQ.noB n)⟩
theorem KQ.own (h : KQ B w w') {base : Nat} {v : Value} {vs : List Value} (ho : OwnV w base v vs) : OwnV w' base v vs := by
  refine own_moveO ho (fun g hg => ?_)
  obtain ⟨S, k, n, -⟩ := h
  rcases ho.2 with ⟨e, -⟩ | ⟨g', cp, cur, e, -, hgb, -⟩
  · rw [e] at hg; cases hg
  · rw [e] at hg
    cases hg
    refine k.block _ (Array.getElem?_eq_some_iff.1 hgb).1 (fun hm => ?_)
    rcases n _ hm _ hgb with ⟨cs', e⟩ | ⟨cs', e⟩ <;> cases e
theorem KQ.base (h : KQ B w w') {w0 : World} (k0 : Keeps w0 w []) (hB : w0.heap.size ≤ B) : Keeps w0 w' [] := by
  obtain ⟨S, k, -, n⟩ := h
  exact k0.trans k (fun j hj hlt => by have := n j hj; omega)

theorem QL.toZ (h : QL pv B w p q) (hB : B ≤ w.heap.size) : ∃ Z : Nat → Prop, QAt pv Z w p q ∧ (∀ k, w.heap.size ≤ k → Z k) ∧ (∀ k, Z k → B ≤ k) ∧ (∀ k, Z k → ∀ o, w.heap[k]? = some o → (∃ cs, o = .cells cs 95 (0, 0)) ∨ (∃ cs, o = .cells cs 98 (0, 0))) := by
  obtain ⟨⟨g, c, bp, rq, hg⟩, hp⟩ := h
  refine ⟨fun k => k = p ∨ k = g ∨ w.heap.size ≤ k, ⟨⟨g, c, bp, rq, .inr (.inl rfl)⟩, .inl rfl⟩, fun k hk => .inr (.inr hk), fun k hk => by rcases hk with rfl | rfl | hk <;> omega, fun k hk o ho => ?_⟩
  rcases hk with rfl | rfl | hk
  · exact .inl ⟨_, (Option.some.inj (ho.symm.trans bp))⟩
  · rcases rq.2.2 with ⟨e, -⟩ | ⟨g', cp, cur, e, -, hgb, -⟩
    · cases e
    · cases e
      exact .inr ⟨_, (Option.some.inj (ho.symm.trans hgb))⟩
  · rw [Array.getElem?_eq_none hk] at ho
    cases ho
theorem QL.ofZ {Z : Nat → Prop} (h : QAt pv Z w p q) (hB : ∀ k, Z k → B ≤ k) : QL pv B w p q := by
  obtain ⟨⟨g, c, bp, rq, hg⟩, hp⟩ := h
  exact ⟨⟨g, c, bp, rq, hB g hg⟩, hB p hp⟩
theorem KQ.ofZ {Z : Nat → Prop} (h : KeepsZ Z w w') (hB : ∀ k, Z k → B ≤ k) (hn : ∀ k, Z k → ∀ o, w.heap[k]? = some o → (∃ cs, o = .cells cs 95 (0, 0)) ∨ (∃ cs, o = .cells cs 98 (0, 0))) : KQ B w w' := by
  obtain ⟨S, h1, h2⟩ := h
  exact ⟨S, h1, fun k hk => hn k (h2 k hk), fun k hk => hB k (h2 k hk)⟩
theorem QL.keeps {S : List Nat} (h : QL pv B w p q) (k : Keeps w w' S) (hS : ∀ b ∈ S, ∃ o, w.heap[b]? = some o ∧ (∀ cs, o ≠ .cells cs 95 (0, 0)) ∧ (∀ cs, o ≠ .cells cs 98 (0, 0))) : QL pv B w' p q := by
  obtain ⟨⟨g, c, bp, rq, hg⟩, hp⟩ := h
  refine ⟨⟨g, c, bp.keeps k (fun hm => ?_), rq.keeps k (fun hm => ?_), hg⟩, hp⟩
  · obtain ⟨o, h1, h2, -⟩ := hS p hm
    exact h2 _ (Option.some.inj (h1.symm.trans bp))
  · obtain ⟨o, h1, -, h3⟩ := hS g hm
    exact own_neO rq.2 h1 h3 rfl
theorem QL.keep (h : QL pv B w p q) (k : Keeps w w' []) : QL pv B w' p q := h.keeps k (fun _ h => by cases h)
end

/-- How a call that changes the queue ends. -/
def PushL (pv : Int → Value) (B : Nat) (w : World) (p : Nat) (q : List It) (e : Ending) (w' : World) : Prop := e = .returned (.tuple #[]) ∧ ∃ q', q'.Perm q ∧ HeapN q' q'.length ∧ QL pv B w' p q' ∧ KQ B w w'
def NextL (pv : Int → Value) (B : Nat) (w : World) (p : Nat) (q : List It) (e : Ending) (w' : World) : Prop :=
  ∃ (x : It) (q' : List It), e = .returned (aggQ pv x) ∧ (x :: q').Perm q ∧ (∀ y ∈ q', leI x y) ∧ HeapN q' q'.length ∧ QL pv B w' p q' ∧ KQ B w w'

theorem pushL_any (pv : Int → Value) (B : Nat) (p : Nat) (q : List It) (x : It) (w : World) (h : QL pv B w p q) (hB : B ≤ w.heap.size) (hpv : PvOk pv) (hh : HeapN q q.length) (hn : q.length ≤ 100000000) :
    Calls Tryz.prog 51 #[ifQ p, .iface 98 (.agg #[.int .i64 x.at', .int .i64 x.worth, pv x.at'])] w (PushL pv B w p (q ++ [x])) := by
  obtain ⟨Z, h1, h2, h3, h4⟩ := h.toZ hB
  refine (hpush_any pv Z p q x w h1 h2 hpv hh hn).mono ?_
  rintro e w' ⟨he, q', hp, hh', qa, kz⟩
  refine ⟨he, q', hp, ?_, QL.ofZ qa h3, KQ.ofZ kz h3 h4⟩
  rw [hp.length_eq, List.length_append]
  exact hh'
theorem nextL_any (pv : Int → Value) (B : Nat) (p N : Nat) (q : List It) (w : World) (h : QL pv B w p q) (hB : B ≤ w.heap.size) (hpv : PvOk pv) (hh : HeapN q q.length) (hl : q.length = N + 1) (hn : N ≤ 100000000) :
    Calls Tryz.prog 53 #[.pointer (some ⟨p, 0, none⟩)] w (NextL pv B w p q) := by
  obtain ⟨Z, h1, h2, h3, h4⟩ := h.toZ hB
  refine (next_any pv Z p N q w h1 h2 hpv hh hl hn).mono ?_
  rintro e w' ⟨x, q', he, hp, hle, hh', qa, kz⟩
  exact ⟨x, q', he, hp, hle, hh', QL.ofZ qa h3, KQ.ofZ kz h3 h4⟩
end

section
set_option linter.unusedVariables false
set_option linter.unusedSimpArgs false
set_option linter.unusedSectionVars false
open Go.RowKit

def BadEnd (w : World) (e : Ending) (w' : World) : Prop := e = .returned (.tuple #[.slice none 0 0, .int .i64 2]) ∧ Keeps w w' []

set_option maxRecDepth 100000 in
set_option maxHeartbeats 1000000 in
theorem cont_bad (v : Value) (l : List (List Int)) (size : Int) (w : World) (hv : RdL .u8 w v l) (hll : l.length ≤ 1000000000) (hbad : ¬ (mayL l ∧ 8 ≤ size ∧ size ≤ 134217728)) :
    Calls Tryz.prog 19 #[v, .int .i64 size] w (BadEnd w) := by
  have hmf : ∀ (fn : Fn) (first cap : Array Value) (w : World), (Instr.makeFunc fn first cap).run Tryz.prog w = .ok (.func fn first cap) w := fun _ _ _ _ => rfl
  have k0 : Keeps w ((w.alloc (.cells #[.slice none 0 0] 33)).alloc (.cells #[.int .i64 0] 34)) [] := ((Keeps.refl w []).alloc _).alloc _
  have bo := (Blk.new w #[.slice none 0 0] 33).alloc (.cells #[.int .i64 0] 34)
  have be := Blk.new (w.alloc (.cells #[.slice none 0 0] 33)) #[.int .i64 0] 34
  simp only [World.size_alloc] at be
  have hv0 := hv.keeps k0
  have HO := Lib.hid (of_any v l _ hv0 hll)
  obtain ⟨A1, n1, cp1, rfl, -, -⟩ := hv.form
  have HB := Lib.hid hbad
  clear hv hv0 hbad
  by_cases h8 : 8 ≤ size
  all_goals by_cases h9 : size ≤ 134217728
  all_goals try (exfalso; omega)
  all_goals
    try have h8' : decide (8 ≤ size) = false := decide_eq_false h8
    try have h9' : decide (size ≤ 134217728) = false := decide_eq_false h9
    go_enter_defers Tryz.func19, Tryz.ntmps19
    go_wp2_with fail
    generalize ((w.alloc (.cells #[.slice none 0 0] 33)).alloc (.cells #[.int .i64 0] 34)) = W0 at *
    refine HO.out.mono ?_
    rintro e w1 ⟨k1, (⟨hm, rfl⟩ | ⟨hm, rfl⟩)⟩
  all_goals try (exfalso; exact HB.out ⟨hm, h8, h9⟩)
  all_goals
    have bo1 := bo.keeps k1 (by simp)
    have be1 := be.keeps k1 (by simp)
    have k01 := k0.then k1
    have HM := Lib.hid hm
    clear k1 HO hm bo be k0
    obtain ⟨e0, e1⟩ := be1.one
    obtain ⟨o0, o1⟩ := bo1.one
    have ho1 := bo1.lt
    have he1 := be1.lt
    first
    | (go_wp2_with (go_at_call 50; refine (tis_no rfl _ _).mono ?_; rintro e w2 ⟨rfl, rfl⟩)
       refine leaves_cons (f := 42) (args := #[.pointer (some ⟨w.heap.size + 1, 0, none⟩), .func (.func 49) #[] #[.pointer (some ⟨w.heap.size, 0, none⟩)]]) (by simp) (by simp [go_sem]) ?_
       refine (tcaught_cont _ _ 2 _ _ _ _ [] _ (be1.alloc _) (bo1.alloc _) (by omega)).mono ?_
       rintro e u' w'' ⟨rfl, rfl, rfl⟩
       refine ⟨.tuple #[.slice none 0 0, .int .i64 2], by simp only [results, Tryz.results19]; go_simp, ?_⟩
       exact ⟨rfl, Keeps.setCell' (.inl (by dsimp only; omega)) (Keeps.setCell' (.inl (by dsimp only; omega)) (k01.alloc _))⟩)
    | (go_wp2_with fail
       refine leaves_cons (f := 42) (args := #[.pointer (some ⟨w.heap.size + 1, 0, none⟩), .func (.func 49) #[] #[.pointer (some ⟨w.heap.size, 0, none⟩)]]) (by simp) (by simp [go_sem]) ?_
       refine (tcaught_cont _ _ 2 _ _ _ _ [] _ be1 bo1 (by omega)).mono ?_
       rintro e u' w'' ⟨rfl, rfl, rfl⟩
       refine ⟨.tuple #[.slice none 0 0, .int .i64 2], by simp only [results, Tryz.results19]; go_simp, ?_⟩
       exact ⟨rfl, Keeps.setCell' (.inl (by dsimp only; omega)) (Keeps.setCell' (.inl (by dsimp only; omega)) k01)⟩)
end

section
set_option linter.unusedVariables false
set_option linter.unusedSimpArgs false
open Go.RowKit

theorem own_build0 (w : World) (e : TypeId) (size : Nat) : (w.alloc (.cells #[] e)).ownsRow w.heap.size e size (.slice (some ⟨w.heap.size, 0, none⟩) 0 0) 0 [] :=
  ⟨by simp, .inr ⟨_, 0, #[], rfl, Nat.le_refl _, heap_alloc_new w _, Nat.le_refl _, by simp, by simp, by simp⟩⟩

theorem step_appendI {P : Program} {ops : Array Oper} {o : Oper} {a : Act} {w : World} {K : Act → World → Prop} {Q : Exit → Act → World → Prop} {E : Prop} (hgd : o.guard = none) (s x : Operand) (t : TypeId)
    (ho : o.op = .call { callee := .builtin .append, args := #[s, x], argTypes := #[t, t] })
    (base : Nat) (e : TypeId) (i : TypeInfo) (z : Value) (bytes : Nat) (ht : P.underlying t = some (.slice e)) (hi : P.info? e = some i) (hz : i.zero = some z)
    (hsize : i.size = 1) (hby : i.bytes = bytes) (hzs : z.cells.size = 1)
    (v : Value) (n : Nat) (xs : List Value) (hs : a.eval s = v) (hown : w.ownsRow base e 1 v n xs) (vx : Value) (hx : a.eval x = vx) (k : IntKind) (l : List Int) (hv : RdI k w vx l)
    (h63 : n + l.length ≤ maxLen) (hbytes : (n + l.length) * bytes ≤ 140737488355328) (hbase : base ≤ w.heap.size)
    (h : ∀ v' w', w'.ownsRow base e 1 v' (n + l.length) (xs ++ l.map (Value.int k)) → w.grownBy w' v.ownBlock → K (a.put o.dst v') w') :
    if Region.wanted o (yielded ops a.tmps) = true then Oper.wp P o a w K Q else E := by
  have hw : Region.wanted o (yielded ops a.tmps) = true := by simp [Region.wanted, hgd]
  rw [if_pos hw]
  obtain ⟨A0, m, cp, rfl, hm, -⟩ := hv.form
  cases A0 with
  | none =>
    obtain ⟨rfl, rfl, rfl⟩ := hv.nilcap
    have hrun := run_append_owned_none (P := P) (w := w) base t o.type e i 1 ht hi v n xs hown
    unfold Oper.wp
    simp [execOp, ho, resolve, invoke, builtin, hs, hx, hrun, Result.andThen]
    exact h v w (by simpa using hown) (grown_refl _ _)
  | some ad =>
    subst hm
    exact wp_append_own w s x t ho base e i z 1 bytes ht hi hz hsize hby hzs (by decide) v n xs hs hown ad l.length cp (l.map (Value.int k)) hx (by simp) hv.news (nums_one k l) h63 hbytes hbase
      (fun v' w' h1 h2 _ => h v' w' h1 h2)
end

section
set_option linter.unusedVariables false
set_option linter.unusedSimpArgs false
set_option linter.unusedSectionVars false
open Go.RowKit

theorem run_append_zero {P : Program} (t ty e : TypeId) (i : TypeInfo) (ht : P.underlying t = some (.slice e)) (hi : P.info? e = some i) (ad : Addr) (n c : Nat) (oa : Option Addr) (oc : Nat) (hnc : n ≤ c) (w : World) :
    (Builtin.append_ #[t, t] ty #[.slice (some ad) n c, .slice oa 0 oc]).run P w = .ok (.slice (some ad) n c) w := by
  cases oa <;> simp [Builtin.append_, run_underlying ht, sizeOf, typeInfo, hi, Builtin.lenOf, Builtin.firstCells, loadCells, loadCellsFrom, hnc, storeCells]

/-- append(p[:len(p):len(p)], out...). -/
theorem app_any {P : Program} (t ty e : TypeId) (i : TypeInfo) (z : Value) (ht : P.underlying t = some (.slice e)) (hi : P.info? e = some i) (hz : i.zero = some z) (h1 : i.size = 1) (h2 : i.bytes = 1) (hzs : z.cells.size = 1)
    (ad : Addr) (n c : Nat) (oa : Option Addr) (m oc : Nat) (p out : List Int) (w : World) (hp : RdI .u8 w (.slice (some ad) n c) p) (ho : RdI .u8 w (.slice oa m oc) out) (hl : n + m ≤ 1000000000) :
    ∃ a' c' w', (Builtin.append_ #[t, t] ty #[.slice (some ad) n n, .slice oa m oc]).run P w = .ok (.slice a' (n + m) c') w' ∧ RdI .u8 w' (.slice a' (n + m) c') (p ++ out) ∧ Keeps w w' [] ∧
      ((w' = w ∧ a' = some ad) ∨ w'.ownsRow w.heap.size e 1 (.slice a' (n + m) c') (n + m) ((p ++ out).map (.int .u8))) := by
  have hpl := hp.len
  have hol := ho.len
  by_cases h0 : m = 0
  · subst h0
    have hout : out = [] := List.eq_nil_of_length_eq_zero hol.symm
    subst hout
    refine ⟨some ad, n, w, run_append_zero t ty e i ht hi ad n n oa oc (Nat.le_refl _) w, ?_, Keeps.refl _ _, .inl ⟨rfl, rfl⟩⟩
    rw [List.append_nil]
    obtain ⟨a, k, cp, he, hk, hk0, hk1⟩ := hp.form
    cases he
    exact ⟨_, _, _, rfl, hk, (fun h => by cases h), fun hk2 => ⟨Nat.le_refl _, (hk1 hk2).2⟩⟩
  · obtain ⟨ob, oo, rfl, -, -⟩ := ho.addr (by omega)
    obtain ⟨v', w', hr, own, hg⟩ := run_append_arg_grows w t ty e i z 1 1 ht hi hz h1 h2 hzs (by decide) ad n n (p.map (.int .u8)) (by simp; omega) hp.news ⟨ob, oo, none⟩ m oc (out.map (.int .u8)) (by simp; omega) ho.news (by omega) (by unfold maxLen; omega) (by omega)
    obtain ⟨a', c', rfl⟩ := own_form own
    rw [← List.map_append] at own
    refine ⟨a', c', w', hr, ?_, Keeps.of_grown hg (fun k hk => by cases hk), .inr own⟩
    have hl2 : (p ++ out).length = n + m := by rw [List.length_append]; omega
    rw [← hl2] at own
    exact hl2 ▸ own_reads own

theorem step_append_run {P : Program} {ops : Array Oper} {o : Oper} {a : Act} {w w' : World} {v' va vx : Value} {K : Act → World → Prop} {Q : Exit → Act → World → Prop} {E : Prop} (hgd : o.guard = none) (s x : Operand) (t : TypeId)
    (ho : o.op = .call { callee := .builtin .append, args := #[s, x], argTypes := #[t, t] }) (hs : a.eval s = va) (hx : a.eval x = vx) (hrun : (Builtin.append_ #[t, t] o.type #[va, vx]).run P w = .ok v' w')
    (h : K (a.put o.dst v') w') : if Region.wanted o (yielded ops a.tmps) = true then Oper.wp P o a w K Q else E := by
  have hw : Region.wanted o (yielded ops a.tmps) = true := by simp [Region.wanted, hgd]
  rw [if_pos hw]
  unfold Oper.wp
  simp [execOp, ho, resolve, invoke, builtin, hs, hx, hrun, Result.andThen]
  exact h

/-- x[:n:n]. -/
theorem run_sliceFull {P : Program} {t e : TypeId} (ht : P.underlying t = some (.slice e)) {i0 : TypeInfo} (hi : P.info? e = some i0) {ad : Addr} {n c : Nat} (h0 : 0 < n) (hnc : n ≤ c) (w : World) :
    (Instr.slice t (.slice (some ad) n c) none (some (.int .i64 (n : Int))) (some (.int .i64 (n : Int)))).run P w = .ok (.slice (some ad) n n) w := by
  have hc : ¬ c = 0 := by omega
  have hn : ¬ n = 0 := by omega
  simp [Instr.slice, Instr.sliceBounds, Instr.sliceBound, asIntOf, run_underlying ht, go_sem, sizeOf, typeInfo, hi, hnc, hc, hn]
end

end Go.Proofs.YtogengangfohfaaGreat
