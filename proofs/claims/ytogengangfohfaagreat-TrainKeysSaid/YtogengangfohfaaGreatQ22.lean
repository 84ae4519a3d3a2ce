/-
  Walks over package train: Content.
-/
import Derived.Test.YtogengangfohfaaGreatQ19
import Derived.Deep.RegionLaw
import Derived.Deep.DeepCutAuto
import Derived.Deep.CutRange
import Derived.Deep.LoopGhost
import Derived.Test.YtogengangfohfaaGreatQ9
namespace Go.Proofs.YtogengangfohfaaGreat
set_option linter.unusedVariables false
set_option linter.unusedSimpArgs false
set_option linter.unusedSectionVars false
open Go.RowKit

/-- How Content ends. -/
def ContEnd (w : World) (l : List (List Int)) (size : Nat) (e : Ending) (w' : World) : Prop :=
  ∃ v out, e = .returned (.tuple #[v, .int .i64 0]) ∧ RdI .u8 w' v out ∧ Greedy (cntL l) (piecesL l) size [] [] out ∧ Keeps w w' []

theorem allP_len2 {l : List (List Int)} (h : ∀ b ∈ l, b.length ≤ 131072) : (allP l).length ≤ l.length * 4097 := by
  induction l with
  | nil => simp [allP]
  | cons b l ih =>
    have h1 := chunk_len b
    have h2 := h b (by simp)
    have h3 := ih (fun x hx => h x (by simp [hx]))
    simp only [allP, List.flatMap_cons, List.length_append, List.length_cons, Nat.add_mul] at *
    omega
/-- The value of piece i. -/
def pvOf (vs : List Value) (i : Int) : Value := vs.getD i.toNat (.slice none 0 0)
theorem pvOf_at {vs : List Value} {i : Nat} {u : Value} (h : vs[i]? = some u) : pvOf vs (i : Int) = u := by simp [pvOf, List.getD_eq_getElem?_getD, h]
theorem pvOf_ok {w : World} {vs : List Value} {ls : List (List Int)} (h : PcV w vs ls) : PvOk (pvOf vs) := fun i => by
  unfold pvOf
  rw [List.getD_eq_getElem?_getD]
  cases hv : vs[i.toNat]? with
  | none => exact ⟨_, _, _, rfl⟩
  | some u =>
    have hlt := (List.getElem?_eq_some_iff.1 hv).1
    rw [h.len] at hlt
    obtain ⟨v, h1, h2, -⟩ := h.at (List.getElem?_eq_getElem hlt)
    rw [hv] at h1
    cases h1
    obtain ⟨a, n, c, rfl, -⟩ := h2.form
    exact ⟨a, n, c, rfl⟩
/-- The queue behind the first i pieces. -/
def startQ (c : List Int → Nat) (P : List (List Int)) (i : Nat) : List It := (List.range i).map fun k : Nat => (⟨(k : Int), (wkL c [] (P.getD k []) : Nat), P.getD k []⟩ : It)
theorem startQ_succ (c : List Int → Nat) (P : List (List Int)) (i : Nat) : startQ c P (i + 1) = startQ c P i ++ [⟨(i : Int), (wkL c [] (P.getD i []) : Nat), P.getD i []⟩] := by simp [startQ, List.range_succ]
theorem startQ_len (c : List Int → Nat) (P : List (List Int)) (i : Nat) : (startQ c P i).length = i := by simp [startQ]
theorem HeapN.none : HeapN [] 0 := fun k _ h => by omega
theorem wk_bound {c : List Int → Nat} (hc : ∀ k, c k ≤ 1024) (but : List (List Int)) (b : List Int) : wkL c but b ≤ b.length * 1024 := by
  have h1 := sumK_le (c := c) (but := but) hc (keysL b)
  have h2 := keys_len b
  exact Nat.le_trans h1 (Nat.mul_le_mul_right 1024 h2)

/-- A postcondition whose panics do not see the frame. -/
def CalmU (Q : Exit → Act → World → Prop) : Exit → Act → World → Prop
  | .panic _, _, _ => False
  | e, a, w => Q e a w
theorem wp_calmU {P : Program} {c : Code} {Q : Exit → Act → World → Prop} {a : Act} {w : World} (h : Code.wp P c (CalmU Q) a w) : Code.wp P c Q a w :=
  wp_mono h fun e _ _ hq => by cases e <;> first | exact hq | exact hq.elim
theorem calmU_normal {Q : Exit → Act → World → Prop} {a : Act} {w : World} (h : Q .normal a w) : CalmU Q .normal a w := h

/-- What Content has in memory, beside the queue. -/
structure CB (w : World) (vs : List Value) (P : List (List Int)) (c : List Int → Nat) (m nk : Nat) (kn : List (List Int)) (f : List Int → Option Int) (ov : Value) (out : List Int) (wr : World) : Prop where
  bo : Blk wr w.heap.size #[ov] 33
  be : Blk wr (w.heap.size + 1) #[.int .i64 0] 34
  rd : RdI .u8 wr ov out
  ib : InB wr ov
  pc : PcV wr vs P
  mp : MapS wr m nk f
  fk : ∀ k, (f k).getD 0 = if k ∈ kn then 0 else (c k : Int)
  kk : Keeps w wr []
theorem CB.kq {w vs P c m nk kn f ov out wr wr'} {B : Nat} (h : CB w vs P c m nk kn f ov out wr) (k : KQ B wr wr') (hB : w.heap.size ≤ B) : CB w vs P c m nk kn f ov out wr' :=
  ⟨k.blk h.bo (by decide) (by decide), k.blk h.be (by decide) (by decide), (k.rd h.rd h.ib).1, (k.rd h.rd h.ib).2, k.pc h.pc, k.map h.mp, h.fk, k.base h.kk hB⟩
theorem CB.keep {w vs P c m nk kn f ov out wr wr'} (h : CB w vs P c m nk kn f ov out wr) (k : Keeps wr wr' []) : CB w vs P c m nk kn f ov out wr' := h.kq (KQ.keep (B := w.heap.size) k) (Nat.le_refl _)

theorem MapS.notBlk {w : World} {m n : Nat} {f : List Int → Option Int} (h : MapS w m n f) {cs : Array Value} {T : TypeId} : ¬ Blk w m cs T := fun hb => by
  obtain ⟨D, ⟨es, clock, hb2, r⟩, h2⟩ := h
  have h3 : w.heap[m]? = some (.cells cs T (0, 0)) := hb
  rw [hb2] at h3
  cases h3
/-- One key is struck. -/
theorem CB.del {w vs P c m nk kn f ov out wr wr'} {q : List Int} (h : CB w vs P c m nk kn f ov out wr) (k : Keeps wr wr' [m]) (hm : MapS wr' m nk (Go.Proofs.YtogengangfohfaaGreat.del f q)) (hB : w.heap.size ≤ m) : CB w vs P c m nk (kn ++ [q]) (Go.Proofs.YtogengangfohfaaGreat.del f q) ov out wr' := by
  have hn : ∀ {b : Nat} {cs : Array Value} {T : TypeId}, Blk wr b cs T → b ∉ [m] := fun hb hm2 => by rw [List.mem_singleton.1 hm2] at hb; exact h.mp.notBlk hb
  have nb : NoB wr [m] := fun g hg cs hb => hn hb hg
  refine ⟨h.bo.keeps k (hn h.bo), h.be.keeps k (hn h.be), h.rd.keepsB h.ib k nb, h.ib.keeps k nb, h.pc.keeps k nb, hm, fun r => ?_, h.kk.trans k (fun j hj hlt => by have := List.mem_singleton.1 hj; omega)⟩
  have h1 := h.fk r
  simp only [Go.Proofs.YtogengangfohfaaGreat.del, List.mem_append, List.mem_singleton]
  by_cases e : r = q
  · simp [e]
  · simp [e]; exact h1
/-- The result is laid. -/
theorem CB.put {w vs P c m nk kn f ov out wr} {ov' : Value} {out' : List Int} (h : CB w vs P c m nk kn f ov out wr) (hr : RdI .u8 wr ov' out') (hb : InB wr ov') : CB w vs P c m nk kn f ov' out' (wr.setCell ⟨w.heap.size, 0, none⟩ ov') := by
  have k : Keeps wr (wr.setCell ⟨w.heap.size, 0, none⟩ ov') [w.heap.size] := (Keeps.refl wr [w.heap.size]).setCell (.inr (by simp)) _
  have nb : NoB wr [w.heap.size] := fun g hg cs hcs => by
    rw [List.mem_singleton.1 hg] at hcs
    have h1 := h.bo.symm.trans hcs
    cases h1
  have hmn : m ∉ [w.heap.size] := fun hm => by
    have := List.mem_singleton.1 hm
    exact h.mp.notBlk (by rw [this]; exact h.bo)
  refine ⟨?_, h.be.keeps k (by simp), hr.keepsB hb k nb, hb.keeps k nb, h.pc.keeps k nb, h.mp.keeps k hmn, h.fk, h.kk.trans k (fun j hj hlt => by have := List.mem_singleton.1 hj; omega)⟩
  have := h.bo.set 0 ov'
  simpa using this

/-- The state of Content's second loop. -/
structure CSt (w : World) (vs : List Value) (P : List (List Int)) (c : List Int → Nat) (size B p m nk : Nat) (q : List It) (out : List Int) (kn : List (List Int)) (f : List Int → Option Int) (ov : Value) (wr : World) : Prop where
  heap : HeapN q q.length
  ok : QOk c P size out kn q
  greedy : ∀ res, Greedy c P size out kn res → Greedy c P size [] [] res
  ql : QL (pvOf vs) B wr p q
  b : CB w vs P c m nk kn f ov out wr
  fit : out.length ≤ size
  len : q.length ≤ 100000000

set_option maxRecDepth 100000 in
set_option maxHeartbeats 4000000 in
theorem cont_ok (v : Value) (l : List (List Int)) (size : Nat) (w : World) (hv : RdL .u8 w v l) (hb : ∀ b ∈ l, ∀ x ∈ b, 0 ≤ x ∧ x ≤ 255) (hm : mayL l) (h8 : 8 ≤ size) (h9 : size ≤ 134217728) :
    Calls Tryz.prog 19 #[v, .int .i64 (size : Int)] w (ContEnd w l size) := by
  obtain ⟨j0, hj0, yz0, yz1, yz2⟩ := info_parts Tryz.infoItem
  obtain ⟨i0, hi0, hz0, hz1, hz2⟩ := info_parts Tryz.infoByte
  have hmf : ∀ (fn : Fn) (first cap : Array Value) (w : World), (Instr.makeFunc fn first cap).run Tryz.prog w = .ok (.func fn first cap) w := fun _ _ _ _ => rfl
  have k0 : Keeps w ((w.alloc (.cells #[.slice none 0 0] 33)).alloc (.cells #[.int .i64 0] 34)) [] := ((Keeps.refl w []).alloc _).alloc _
  have bo := (Blk.new w #[.slice none 0 0] 33).alloc (.cells #[.int .i64 0] 34)
  have be := Blk.new (w.alloc (.cells #[.slice none 0 0] 33)) #[.int .i64 0] 34
  simp only [World.size_alloc] at be
  have hv0 := hv.keeps k0
  have HO := Lib.hid (of_any v l _ hv0 (by have := hm.1; omega))
  obtain ⟨A1, n1, cp1, rfl, -, -⟩ := hv.form
  have HV := Lib.hid hv
  have HB := Lib.hid hb
  have HM := Lib.hid hm
  clear hv hv0 hb hm
  have h8' : (8 : Int) ≤ (size : Int) := by omega
  have h9' : (size : Int) ≤ 134217728 := by omega
  go_enter_defers Tryz.func19, Tryz.ntmps19
  go_wp2_with fail
  generalize ((w.alloc (.cells #[.slice none 0 0] 33)).alloc (.cells #[.int .i64 0] 34)) = W0 at *
  refine HO.out.mono ?_
  rintro e w1 ⟨k1, (⟨-, rfl⟩ | ⟨hno, rfl⟩)⟩
  rotate_left
  · exact absurd HM.out hno
  replace bo := bo.keeps k1 (by simp)
  replace be := be.keeps k1 (by simp)
  replace k0 := k0.then k1
  have hs1 := k1.size
  clear k1 HO
  have ho1 := bo.lt
  have he1 := be.lt
  go_wp2_with (go_at_call 50; refine (tis_yes rfl _ _).mono ?_; rintro e w2 ⟨rfl, rfl⟩)
  have bl := Blk.new w1 #[.slice A1 n1 cp1] 83
  have kz : Keeps w1 (w1.alloc (.cells #[.slice A1 n1 cp1] 83)) [] := (Keeps.refl w1 []).alloc _
  have bo1 := bo.keeps kz (by simp)
  have be1 := be.keeps kz (by simp)
  have k01 := k0.then kz
  have hsW : (w1.alloc (.cells #[.slice A1 n1 cp1] 83)).heap.size = w1.heap.size + 1 := by simp
  generalize (w1.alloc (.cells #[.slice A1 n1 cp1] 83)) = W1 at *
  have HK := Lib.hid (known_any _ l W1 (HV.out.keeps k01) HB.out HM.out.1 HM.out.2)
  have hsW1 : w1.heap.size < W1.heap.size := by omega
  clear bo be k0 kz hs1 hsW
  refine HK.out.mono ?_
  rintro e w2 ⟨rfl, ⟨nk, hnk, mp⟩, k2⟩
  have bl2 := bl.keeps k2 (by simp)
  have bo2 := bo1.keeps k2 (by simp)
  have be2 := be1.keeps k2 (by simp)
  have k02 := k01.then k2
  have hs2 := k2.size
  clear bl bo1 be1 k01 k2 HK
  have hb0 := fun w => run_build0 (P := Tryz.prog) w 95 98 j0 _ Tryz.underlying95 hj0 yz0
  have kz : Keeps w2 ((w2.alloc (.cells #[] 98)).alloc (.cells #[.slice (some ⟨w2.heap.size, 0, none⟩) 0 0] 95)) [] := ((Keeps.refl w2 []).alloc _).alloc _
  have bq : Blk ((w2.alloc (.cells #[] 98)).alloc (.cells #[.slice (some ⟨w2.heap.size, 0, none⟩) 0 0] 95)) (w2.heap.size + 1) #[.slice (some ⟨w2.heap.size, 0, none⟩) 0 0] 95 := by
    have := Blk.new (w2.alloc (.cells #[] 98)) #[.slice (some ⟨w2.heap.size, 0, none⟩) 0 0] 95
    simpa using this
  have br : Blk ((w2.alloc (.cells #[] 98)).alloc (.cells #[.slice (some ⟨w2.heap.size, 0, none⟩) 0 0] 95)) w2.heap.size #[] 98 := (Blk.new w2 #[] 98).alloc _
  have bl3 := bl2.keeps kz (by simp)
  have bo3 := bo2.keeps kz (by simp)
  have be3 := be2.keeps kz (by simp)
  have k03 := k02.then kz
  have mp3 := mp.keeps kz (by simp)
  obtain ⟨c0, -⟩ := bl2.one
  obtain ⟨c3, -⟩ := bl3.one
  have hlm := mp.lt
  have hl2 := bl2.lt
  go_wp2_with fail
  have hsZ : ((w2.alloc (.cells #[] 98)).alloc (.cells #[.slice (some ⟨w2.heap.size, 0, none⟩) 0 0] 95)).heap.size = w2.heap.size + 2 := by simp
  generalize ((w2.alloc (.cells #[] 98)).alloc (.cells #[.slice (some ⟨w2.heap.size, 0, none⟩) 0 0] 95)) = W3 at *
  have HPC := Lib.hid (pieces_any _ l W3 (HV.out.keeps k03) HM.out.1 HM.out.2)
  have HSZ := Lib.hid hsZ
  have hsW3 : w2.heap.size + 2 ≤ W3.heap.size := by omega
  clear c0 c3 kz bl2 bo2 be2 k02 mp hsZ hb0 bl3
  refine HPC.out.mono ?_
  rintro e w4 ⟨v4, vs, rfl, ow4, pc4, k4⟩
  have bo4 := bo3.keeps k4 (by simp)
  have be4 := be3.keeps k4 (by simp)
  have mp4 := mp3.keeps k4 (by simp)
  have bq4 := bq.keeps k4 (by simp)
  have br4 := br.keeps k4 (by simp)
  have k04 := k03.then k4
  have hs4 := k4.size
  clear bo3 be3 mp3 bq br k03 k4 HPC
  obtain ⟨a4, c4, rfl⟩ := own_form ow4
  have hvl := pc4.len
  have hPv := pvOf_ok pc4
  obtain ⟨P, hP⟩ : ∃ P, P = piecesL l := ⟨_, rfl⟩
  have hPb : ∀ p ∈ P, ∀ x ∈ p, 0 ≤ x ∧ x ≤ 255 := fun p hp x hx => by
    rw [hP] at hp
    obtain ⟨-, -, b, hbl, hpc⟩ := mem_pieces hp
    exact chunk_byte (HB.out b hbl) hpc x hx
  have hPs : ∀ p ∈ P, p.length ≤ 32 ∧ 6 ≤ p.length := fun p hp => by
    rw [hP] at hp
    obtain ⟨h1, h2, -⟩ := mem_pieces hp
    exact ⟨h2, h1⟩
  have hPn : P.length ≤ 100000000 := by
    rw [hP]
    have h1 := longP_len (allP l)
    have h2 : (allP l).length ≤ l.length * 4097 := allP_len2 HM.out.2
    have h3 := HM.out.1
    unfold piecesL
    omega
  obtain ⟨N, hN⟩ : ∃ N, N = vs.length := ⟨_, rfl⟩
  obtain ⟨c, hc⟩ : ∃ c, c = cntL l := ⟨_, rfl⟩
  have hcb : ∀ k, c k ≤ 1024 := fun k => by rw [hc]; have := cnt_le l k; have := HM.out.1; omega
  have hkf : ∀ q, (knownF l q).getD 0 = if q ∈ ([] : List (List Int)) then 0 else (c q : Int) := fun q => by rw [knownF_get, hc]; simp
  have hw02 : w.heap.size ≤ w2.heap.size := by omega
  have QL0 : QL (pvOf vs) w2.heap.size w4 (w2.heap.size + 1) [] := ⟨⟨w2.heap.size, 0, bq4, ⟨rfl, ⟨rfl, .inr ⟨w2.heap.size, 0, #[], rfl, Nat.zero_le _, br4, Nat.le_refl _, by decide, by simp, by simp [cellsW]⟩⟩⟩, Nat.le_refl _⟩, by omega⟩
  rw [← hN] at ow4 hvl ⊢
  rw [← hP] at pc4 hvl
  have HP := Lib.hid hP
  have HN := Lib.hid hN
  have HC := Lib.hid hc
  have HCB := Lib.hid hcb
  have HKF := Lib.hid hkf
  have HPB := Lib.hid hPb
  have HPS := Lib.hid hPs
  have HVL := Lib.hid hvl
  have hN1 : N ≤ 100000000 := by omega
  generalize knownF l = kf at *
  clear hP hN hc hcb hkf hPb hPs hvl bq4 br4
  go_wp2_with fail
  go_loopw [35] (fun s35 wr => ∃ (i : Nat) (q : List It), i ≤ N ∧ s35 = .int .i64 i ∧ Hid (q.Perm (startQ c P i)) ∧ Hid (HeapN q q.length) ∧ QL (pvOf vs) w2.heap.size wr (w2.heap.size + 1) q ∧ PcV wr vs P ∧ OwnV wr W3.heap.size (.slice a4 N c4) vs ∧ MapS wr W1.heap.size nk kf ∧
    Blk wr w.heap.size #[.slice none 0 0] 33 ∧ Blk wr (w.heap.size + 1) #[.int .i64 0] 34 ∧ Keeps w wr []) (fun s35 _ => N - (intOf s35).toNat)
  case atStart => exact ⟨0, [], Nat.zero_le _, rfl, List.Perm.refl _, HeapN.none, QL0, pc4, ow4, mp4, bo4, be4, k04⟩
  case round =>
    obtain ⟨i, q, hi, rfl, hq, hh, ql, pc, ow, mp, bo, be, kk⟩ := hrel
    have hwr2 : w2.heap.size < wr.heap.size := by obtain ⟨⟨g, c, bp, -, -⟩, -⟩ := ql; have := bp.lt; omega
    by_cases hlt : i < N
    · obtain ⟨b, hb⟩ : ∃ b, P[i]? = some b := ⟨_, List.getElem?_eq_getElem (by have := HVL.out; omega)⟩
      obtain ⟨xv, hxv, hxr, hxb⟩ := pc.at hb
      obtain ⟨-, hcap, g, rfl, hg, hcell⟩ := OwnV.at ow hxv
      have hii : (i : Int) < (N : Int) := by omega
      have hbm := List.mem_of_getElem? hb
      have HWO := Lib.hid (worth_any xv b W1.heap.size nk kf c [] wr hxr (HPB.out b hbm) (by have := (HPS.out b hbm).1; omega) mp HKF.out HCB.out)
      obtain ⟨xa, xn, xc, rfl, -⟩ := hxr.form
      have hpvx : Hid (pvOf vs (i : Int) = .slice xa xn xc) := pvOf_at hxv
      have hql : q.length = i := by rw [hq.out.length_eq, startQ_len]
      have hPd : Hid (P.getD i [] = b) := by show _ = _; simp [List.getD_eq_getElem?_getD, hb]
      have hsz := kk.size
      have QLh := Lib.hid ql
      have PCh := Lib.hid pc
      have OWh := Lib.hid ow
      have MPh := Lib.hid mp
      have BOh := Lib.hid bo
      have BEh := Lib.hid be
      have HQL := Lib.hid hql
      obtain ⟨X, hX⟩ : ∃ X, X = wkL c [] b := ⟨_, rfl⟩
      rw [← hX] at HWO
      have HX := Lib.hid hX
      clear hb hxv hxr hxb hbm ql pc ow mp bo be hql hX
      go_wp2_with fail
      refine HWO.out.mono ?_
      rintro e w5 ⟨rfl, k5⟩
      have HPU := Lib.hid (pushL_any (pvOf vs) w2.heap.size (w2.heap.size + 1) q ⟨(i : Int), (X : Int), b⟩ w5 (QLh.out.keep k5) (by have := k5.size; omega) hPv hh.out (by rw [HQL.out]; omega))
      dsimp only at HPU
      rw [hpvx.out] at HPU
      clear HWO
      go_wp2_with fail
      refine HPU.out.mono ?_
      rintro e w6 ⟨rfl, q', hp6, hh6, ql6, kq⟩
      have pc6 := kq.pc (PCh.out.keeps k5 NoB.nil)
      have ow6 := kq.own (own_keeps OWh.out k5)
      have mp6 := kq.map (MPh.out.keeps k5 (by simp))
      have bo6 := kq.blk (BOh.out.keeps k5 (by simp)) (by decide) (by decide)
      have be6 := kq.blk (BEh.out.keeps k5 (by simp)) (by decide) (by decide)
      have kk6 := kq.base (kk.then k5) hw02
      have hq6 : Hid (q'.Perm (startQ c P (i + 1))) := by
        show q'.Perm _
        rw [startQ_succ, hPd.out, ← HX.out]
        exact hp6.trans (List.Perm.append_right _ hq.out)
      have HH6 := Lib.hid hh6
      clear hp6 hh6 kq HPU
      go_wp2_with fail
      go_roundw
      case rel => exact ⟨i + 1, q', by omega, by go_num, hq6, HH6, ql6, pc6, ow6, mp6, bo6, be6, kk6⟩
      case measure => simp [intOf]; omega
    · have hii : decide ((i : Int) < (N : Int)) = false := decide_eq_false (by omega)
      obtain rfl : i = N := by omega
      have hst : CSt w vs P c size w2.heap.size (w2.heap.size + 1) W1.heap.size nk q [] [] kf (.slice none 0 0) wr := by
        refine ⟨hh.out, QOk.start ?_, fun _ h => h, ql, ⟨bo, be, .nil, fun ad n c e => (by cases e), pc, mp, HKF.out, kk⟩, Nat.zero_le _, ?_⟩
        · have h := hq.out
          unfold startQ at h
          rw [HVL.out] at h
          exact h
        · rw [hq.out.length_eq, startQ_len]; omega
      have HST := Lib.hid hst
      have hwr2' := hwr2
      clear hq hh ql pc ow mp bo be kk hst
      go_wp2_with fail
      go_loopg [] (costQ q) (fun k wr => ∃ (q : List It) (out : List Int) (kn : List (List Int)) (f : List Int → Option Int) (ov : Value), Hid (k = costQ q) ∧ CSt w vs P c size w2.heap.size (w2.heap.size + 1) W1.heap.size nk q out kn f ov wr)
      case atStart => exact ⟨q, [], [], kf, .slice none 0 0, rfl, HST.out⟩
      case round =>
        clear HST
        obtain ⟨q, out, kn, f, ov, hk, st⟩ := hrel
        obtain ⟨⟨g, gc, bp, rq, hBg⟩, hBp⟩ := st.ql
        obtain ⟨cp0, -⟩ := bp.one
        have ST := Lib.hid st
        cases hq : q with
        | nil =>
          subst hq
          simp only [List.length_nil] at cp0
          have hgr := ST.out.greedy out ST.out.ok.stop
          have hgr2 : Greedy (cntL l) (piecesL l) size [] [] out := by rw [← HC.out, ← HP.out]; exact hgr
          have HGR := Lib.hid hgr2
          obtain ⟨oa, on, oc, rfl, -, -⟩ := ST.out.b.rd.form
          obtain ⟨o0, o1⟩ := ST.out.b.bo.one
          obtain ⟨e0, e1⟩ := ST.out.b.be.one
          have hfin : Hid (∀ wf, Keeps wr wf [w.heap.size, w.heap.size + 1] → ContEnd w l size (.returned (.tuple #[.slice oa on oc, .int .i64 0])) wf) := fun wf k => by
            have nb : NoB wr [w.heap.size, w.heap.size + 1] := fun g hg cs hcs => by
              simp at hg
              rcases hg with rfl | rfl
              · have h1 := ST.out.b.bo.symm.trans hcs; cases h1
              · have h1 := ST.out.b.be.symm.trans hcs; cases h1
            exact ⟨_, out, rfl, ST.out.b.rd.keepsB ST.out.b.ib k nb, HGR.out, ST.out.b.kk.trans k (fun j hj hlt => by simp at hj; omega)⟩
          clear bp rq st hgr hgr2
          go_wp2_with (go_at_call 52; refine (qlen_any _ _ _ _).mono ?_; rintro e w5 ⟨rfl, rfl⟩)
          refine leaves_cons (f := 42) (args := #[.pointer (some ⟨w.heap.size + 1, 0, none⟩), .func (.func 49) #[] #[.pointer (some ⟨w.heap.size, 0, none⟩)]]) (by simp) (by simp [go_sem]) ?_
          refine (tcaught_idle _ _ _).mono ?_
          rintro e u' w'' ⟨rfl, rfl, rfl⟩
          refine ⟨.tuple #[.slice oa on oc, .int .i64 0], by simp only [results, Tryz.results19]; go_simp, ?_⟩
          refine hfin.out _ ?_
          repeat (first | exact Keeps.refl _ _ | refine Keeps.setCell' (.inr (by simp)) ?_)
        | cons q0 qs =>
          obtain ⟨M, hM⟩ : ∃ M, M = qs.length := ⟨_, rfl⟩
          have hql : Hid (q.length = M + 1) := by show _ = _; rw [hq, hM]; rfl
          rw [hql.out] at cp0
          have HQQ := Lib.hid hq
          clear hM hq bp rq
          have hMb : M ≤ 100000000 := by have := st.len; have := hql.out; omega
          have hwr3 : w2.heap.size ≤ wr.heap.size := by obtain ⟨⟨g, c, bp, -, -⟩, -⟩ := st.ql; have := bp.lt; omega
          clear st
          go_wp2_with (go_at_call 52; refine (qlen_any _ _ _ _).mono ?_; rintro e w5 ⟨rfl, rfl⟩)
          refine (nextL_any (pvOf vs) w2.heap.size (w2.heap.size + 1) M q wr ST.out.ql hwr3 hPv ST.out.heap hql.out hMb).mono ?_
          rintro e w5 ⟨x, q', rfl, hp, hle, hh, ql5, kq⟩
          obtain ⟨xi, hxi, hxP, hxW⟩ := (ST.out.ok.perm hp).item x (by simp)
          obtain ⟨xv, hxv, -, -⟩ := ST.out.b.pc.at hxP
          have cb5 := ST.out.b.kq kq hw02
          obtain ⟨xv', hxv', hxr, hxb⟩ := cb5.pc.at hxP
          rw [hxv] at hxv'
          obtain rfl : xv = xv' := Option.some.inj hxv'
          obtain ⟨xa, xn, xc, rfl, hxn, -⟩ := hxr.form
          have hagg : aggQ (pvOf vs) x = .agg #[.int .i64 x.at', .int .i64 x.worth, .slice xa xn xc] := by unfold aggQ; rw [hxi, pvOf_at hxv]
          rw [hagg]
          have HP5 := Lib.hid hp
          have HLE := Lib.hid hle
          have HH5 := Lib.hid hh
          have HXI := Lib.hid hxi
          have HXP := Lib.hid hxP
          have HXW := Lib.hid hxW
          have HXN := Lib.hid hxn
          have hw53 := kq.size
          have hpvx : Hid (pvOf vs x.at' = .slice xa xn xc) := by show _ = _; rw [hxi, pvOf_at hxv]
          obtain ⟨xat, hxat⟩ : ∃ z, z = x.at' := ⟨_, rfl⟩
          obtain ⟨xw, hxw⟩ : ∃ z, z = x.worth := ⟨_, rfl⟩
          rw [← hxat, ← hxw]
          have HXA := Lib.hid hxat
          have HXWW := Lib.hid hxw
          obtain ⟨wy, hwy⟩ : ∃ wy, wy = w5 := ⟨_, rfl⟩
          subst hwy
          have kz5 : Keeps wy (wy.alloc (.cells #[.int .i64 xat, .int .i64 xw, .slice xa xn xc] 98)) [] := (Keeps.refl wy []).alloc _
          have bx := Blk.new wy #[.int .i64 xat, .int .i64 xw, .slice xa xn xc] 98
          have cb6 := cb5.keep kz5
          have ql6 := ql5.keep kz5
          have hzs : (wy.alloc (.cells #[.int .i64 xat, .int .i64 xw, .slice xa xn xc] 98)).heap.size = wy.heap.size + 1 := by simp
          clear hp hle hh kq hxi hxP hxW hxn hxat hxw hagg hxv hxv' ql5
          go_wp2_with fail
          generalize (wy.alloc (.cells #[.int .i64 xat, .int .i64 xw, .slice xa xn xc] 98)) = wz at *
          obtain ⟨cx0, cx1, cx2, -⟩ := bx.three
          have HWO := Lib.hid (fun wX (k : Keeps wz wX []) => worth_any (.slice xa xn xc) x.l W1.heap.size nk f c kn wX ((hxr.keeps kz5).keeps k) (HPB.out x.l (List.mem_of_getElem? HXP.out)) (by have := (HPS.out x.l (List.mem_of_getElem? HXP.out)).1; omega) (cb6.mp.keeps k (by simp)) cb6.fk HCB.out)
          have CB6 := Lib.hid cb6
          have QL6 := Lib.hid ql6
          have HXR := Lib.hid (hxr.keeps kz5)
          have HXB := Lib.hid (hxb.keeps kz5 NoB.nil)
          clear cb5 cb6 ql6 hxr hxb
          refine wp_calmU ?_
          refine wp_region_held_drew (S := (fun w' => w'.cell? ⟨wy.heap.size, 2, none⟩ = some (.slice xa xn xc) ∧ Keeps wz w' [])) (by kernel_rfl) ⟨cx2, (Keeps.refl wz []).drew⟩ (fun hHeld => ?_)
          refine takeL (i := 0) (v := ?_) rfl (by kernel_rfl) (by kernel_rfl) (by kernel_rfl) (fun _ _ _ h => h) (by rfl) ?_ (by assumption) ?_
          rotate_left
          · (intro w hSw; (try dsimp only at hSw); go_simp; (try with_reducible rfl))
          try simp only [Act.put, List.setIfInBounds_toArray, List.set_cons_zero, List.set_cons_succ]
          refine takeL (i := 1) (v := ?_) rfl (by kernel_rfl) (by kernel_rfl) (by kernel_rfl) (fun _ _ _ h => h) (by rfl) ?_ (by assumption) ?_
          rotate_left
          · (intro w hSw; (try dsimp only at hSw); go_simp; (try with_reducible rfl))
          try simp only [Act.put, List.setIfInBounds_toArray, List.set_cons_zero, List.set_cons_succ]
          refine takeL (i := 2) (v := ?_) rfl (by kernel_rfl) (by kernel_rfl) (by kernel_rfl) (fun _ _ _ h => h) (by rfl) ?_ (by assumption) ?_
          rotate_left
          · (intro w hSw; (try dsimp only at hSw); go_simp; (try with_reducible rfl))
          try simp only [Act.put, List.setIfInBounds_toArray, List.set_cons_zero, List.set_cons_succ]
          refine takeL (i := 3) (v := ?_) rfl (by kernel_rfl) (by kernel_rfl) (by kernel_rfl) (fun _ _ _ h => h) (by rfl) ?_ (by assumption) ?_
          rotate_left
          · (intro w hSw; (try dsimp only at hSw); go_simp; (try with_reducible rfl))
          try simp only [Act.put, List.setIfInBounds_toArray, List.set_cons_zero, List.set_cons_succ]
          refine takeL (i := 4) (v := ?_) rfl (by kernel_rfl) (by kernel_rfl) (by kernel_rfl) (fun _ _ _ h => h) (by rfl) ?_ (by assumption) ?_
          rotate_left
          · (intro w hSw; (try dsimp only at hSw); go_simp; (try with_reducible rfl))
          try simp only [Act.put, List.setIfInBounds_toArray, List.set_cons_zero, List.set_cons_succ]
          refine callL (i := 5) rfl (by kernel_rfl) (fun Kont hK => ?_)
          go_simp
          obtain ⟨g1, g2⟩ := hHeld; refine (HWO.out _ g2).mono ?_; rintro e w7 ⟨rfl, k7⟩
          go_wp2_with fail
          refine hK.out _ _ ?_ (fun hHeld => ?_)
          · (exact ⟨(k7.cell (p := ⟨wy.heap.size, 2, none⟩) (by have := bx.lt; have := g2.size; dsimp only; omega) (by simp)).trans g1, g2.then k7⟩)
          clear hK Kont
          refine takeL (i := 6) (v := ?_) rfl (by kernel_rfl) (by kernel_rfl) (by kernel_rfl) (fun _ _ _ h => h) (by rfl) ?_ (by assumption) ?_
          rotate_left
          · (intro w hSw; (try dsimp only at hSw); go_simp; (try with_reducible rfl))
          try simp only [Act.put, List.setIfInBounds_toArray, List.set_cons_zero, List.set_cons_succ]
          refine takeL (i := 7) (v := ?_) rfl (by kernel_rfl) (by kernel_rfl) (by kernel_rfl) (fun _ _ _ h => h) (by rfl) ?_ (by assumption) ?_
          rotate_left
          · (intro w hSw; (try dsimp only at hSw); go_simp; (try with_reducible rfl))
          try simp only [Act.put, List.setIfInBounds_toArray, List.set_cons_zero, List.set_cons_succ]
          refine wpAnyH_done (by kernel_rfl) ?_ _
          refine calmU_normal ?_
          obtain ⟨g1, g2⟩ := hHeld
          have cb7 := CB6.out.keep g2
          have ql7 := QL6.out.keep g2
          have bx7 := bx.keeps g2 (by simp)
          obtain ⟨d0, d1, d2, -⟩ := bx7.three
          obtain ⟨oa, on, oc, rfl, hon, -⟩ := cb7.rd.form
          obtain ⟨o0, o1⟩ := cb7.bo.one
          obtain ⟨X, hX⟩ : ∃ X, X = wkL c kn x.l := ⟨_, rfl⟩
          have hX2 : wkL c kn x.l ≤ x.l.length * 1024 := wk_bound HCB.out kn x.l
          have hX3 := (HPS.out x.l (List.mem_of_getElem? HXP.out)).1
          rw [← hX] at hX2 ⊢
          have hX4 : X ≤ 32768 := by omega
          have hcost := Lib.hid (costQ_perm HP5.out)
          have hon2 : on ≤ size := by have := ST.out.fit; omega
          have hxn2 : xn ≤ 32 := by have := HXN.out; omega
          have hxw2 : (X : Int) ≤ xw := by have := HXW.out; rw [← hX, ← HXWW.out] at this; exact this
          have hok : QOk c P size out kn (x :: q') := ST.out.ok.perm HP5.out
          have HOK := Lib.hid hok
          have HX := Lib.hid hX
          have HON := Lib.hid hon
          have CB7 := Lib.hid cb7
          have QL7 := Lib.hid ql7
          have hlq : Hid (q'.length ≤ 100000000) := by have h1 := HP5.out.length_eq; have h2 := ST.out.len; simp only [List.length_cons] at h1; show _ ≤ _; omega
          have hskip : Hid (X = 0 ∨ size < x.l.length + out.length → ∀ gk, gk = costQ q → costQ q' < gk ∧ CSt w vs P c size w2.heap.size (w2.heap.size + 1) W1.heap.size nk q' out kn f (.slice oa on oc) w7) := fun hor gk hgk => by
            refine ⟨?_, HH5.out, HOK.out.drop (by rw [← HX.out]; exact hor), ST.out.greedy, QL7.out, CB7.out, ST.out.fit, hlq.out⟩
            rw [hgk, ← hcost.out, costQ_cons]; omega
          clear hX hX2 hX3 hok hon cb7 ql7 g1 bx bx7
          by_cases h0 : X = 0
          · have HSK := Lib.hid (hskip.out (.inl h0) gk hk.out)
            subst h0
            clear hskip
            go_wp2_with fail
            go_roundg (costQ q')
            case measure => exact HSK.out.1
            case rel => exact ⟨q', out, kn, f, .slice oa on oc, rfl, HSK.out.2⟩
          · have h0' : ((X : Int) == 0) = false := by simp; omega
            by_cases h1 : size < xn + on
            · have HSK := Lib.hid (hskip.out (.inr (by have := HXN.out; have := HON.out; omega)) gk hk.out)
              have h1' : (size : Int) - (on : Int) < (xn : Int) := by omega
              clear hskip
              go_wp2_with fail
              go_roundg (costQ q')
              case measure => exact HSK.out.1
              case rel => exact ⟨q', out, kn, f, .slice oa on oc, rfl, HSK.out.2⟩
            · have h1' : decide ((size : Int) - (on : Int) < (xn : Int)) = false := decide_eq_false (by omega)
              clear hskip
              by_cases h2 : (X : Int) < xw
              · have HPU := Lib.hid (pushL_any (pvOf vs) w2.heap.size (w2.heap.size + 1) q' ⟨xat, (X : Int), x.l⟩ w7 QL7.out (by have := g2.size; omega) hPv HH5.out hlq.out)
                dsimp only at HPU
                rw [HXA.out, hpvx.out, ← HXA.out] at HPU
                go_wp2_with fail
                refine HPU.out.mono ?_
                rintro e w8 ⟨rfl, q8, hp8, hh8, ql8, kq8⟩
                have st8 : CSt w vs P c size w2.heap.size (w2.heap.size + 1) W1.heap.size nk q8 out kn f (.slice oa on oc) w8 := by
                  refine ⟨hh8, ?_, ST.out.greedy, ql8, CB7.out.kq kq8 hw02, ST.out.fit, ?_⟩
                  · have h := HOK.out.again
                    rw [← HX.out, ← HXA.out] at h
                    exact h.perm hp8
                  · have h1 := HP5.out.length_eq
                    have h2 := ST.out.len
                    have h3 := hp8.length_eq
                    simp only [List.length_cons, List.length_append, List.length_nil] at h1 h3
                    omega
                have hc8 : Hid (costQ q8 < gk) := by
                  show _ < _
                  rw [hk.out, costQ_perm hp8, costQ_snoc, ← hcost.out, costQ_cons, ← HXWW.out]
                  dsimp only
                  omega
                have H8 := Lib.hid st8
                clear hp8 hh8 ql8 kq8 st8 HPU
                go_wp2_with fail
                go_roundg (costQ q8)
                case measure => exact hc8.out
                case rel => exact ⟨q8, out, kn, f, .slice oa on oc, rfl, H8.out⟩
              · have h2' : decide ((X : Int) < xw) = false := decide_eq_false h2
                have hx6 := (HPS.out x.l (List.mem_of_getElem? HXP.out)).2
                have hxn6 : 6 ≤ xn := by have := HXN.out; omega
                have hr7 := HXR.out.keeps g2
                have hb7 := HXB.out.keeps g2 NoB.nil
                obtain ⟨pb, po, rfl, hpb, -⟩ := hr7.addr (by omega)
                have hxcap := hr7.cap
                have hsl := fun w => run_sliceFull (P := Tryz.prog) Tryz.underlying33 hi0 (ad := ⟨pb, po, none⟩) (n := xn) (c := xc) (by omega) hxcap w
                obtain ⟨ea, ec, w8, hrun, hr8, k8, hor8⟩ := app_any 33 33 5 i0 (.int .u8 0) Tryz.underlying33 hi0 hz0 hz1 hz2 rfl ⟨pb, po, none⟩ xn xc oa on oc x.l out w7.drew (hr7.keeps (Keeps.refl w7 []).drew) (CB7.out.rd.keeps (Keeps.refl w7 []).drew) (by omega)
                have k78 : Keeps w7 w8 [] := ((Keeps.refl w7 []).drew).then k8
                have bo8 := CB7.out.bo.keeps k78 (by simp)
                obtain ⟨oo0, oo1⟩ := bo8.one
                have hb8 : InB w8 (.slice ea (xn + on) ec) := by
                  rcases hor8 with ⟨rfl, rfl⟩ | own
                  · intro ad n c he h0
                    obtain ⟨cs, hcs⟩ := hb7 ⟨pb, po, none⟩ xn xc rfl (by omega)
                    cases he
                    exact ⟨cs, hcs⟩
                  · intro ad n c he h0
                    cases he
                    rcases own.2 with ⟨e, -⟩ | ⟨g, cp, cur, e, -, hg, -⟩
                    · cases e
                    · cases e; exact ⟨_, hg⟩
                have HR8 := Lib.hid hr8
                have HB8 := Lib.hid hb8
                have CB8 := Lib.hid (CB7.out.keep k78)
                have QL8 := Lib.hid (QL7.out.keep k78)
                have BO8 := Lib.hid bo8
                clear hr7 hb7 hr8 hb8 bo8 hor8 k8
                go_wp2_with fail
                refine wp_calmU ?_
                go_region_law (refine step_append_run rfl (.tmp 69) (.tmp 70) 33 rfl (by simp [Act.eval, Act.put]) (by simp [Act.eval, Act.put]) hrun ?_)
                all_goals
                  refine calmU_normal ?_
                  have cb9 := CB8.out.put HR8.out HB8.out
                  have hql9 : QL (pvOf vs) w2.heap.size (w8.setCell ⟨w.heap.size, 0, none⟩ (.slice ea (xn + on) ec)) (w2.heap.size + 1) q' := QL8.out.keeps (S := [w.heap.size]) ((Keeps.refl w8 [w.heap.size]).setCell (.inr (by simp)) _) (fun b hb => by
                    rw [List.mem_singleton.1 hb]
                    exact ⟨_, BO8.out, (by intro cs h; cases h), (by intro cs h; cases h)⟩)
                  have hr9 := (HXR.out.keeps g2).keeps k78
                  have hks9 : Keeps w8 (w8.setCell ⟨w.heap.size, 0, none⟩ (.slice ea (xn + on) ec)) [w.heap.size] := (Keeps.refl w8 [w.heap.size]).setCell (.inr (by simp)) _
                  have nb9 : NoB w8 [w.heap.size] := fun g hg cs hcs => by
                    rw [List.mem_singleton.1 hg] at hcs
                    have h1 := BO8.out.symm.trans hcs
                    cases h1
                  have hr10 := hr9.keepsB ((HXB.out.keeps g2 NoB.nil).keeps k78 NoB.nil) hks9 nb9
                  generalize (w8.setCell ⟨w.heap.size, 0, none⟩ (.slice ea (xn + on) ec)) = w9 at *
                  have HKY := Lib.hid (keys_any _ x.l w9 hr10 (HPB.out x.l (List.mem_of_getElem? HXP.out)) (by have := HXN.out; omega))
                  have CB9 := Lib.hid cb9
                  have QL9 := Lib.hid hql9
                  clear cb9 hql9 hr9 hr10 hks9 nb9 k78 hrun hsl
                  go_wp2_with fail
                  refine HKY.out.mono ?_
                  rintro e w10 ⟨v10, rfl, own10, k10⟩
                  have HS := Lib.hid own10.reads
                  obtain ⟨ya, yc, rfl⟩ := own_form own10
                  have HSEP : Hid (∀ bb oo, ya = some ⟨bb, oo, none⟩ → bb ≠ W1.heap.size) := fun bb oo e => by
                    subst e
                    have h1 := (World.ownsRow.lt own10 bb rfl).1
                    have h2 := CB9.out.mp.lt
                    omega
                  have hkl := keys_len x.l
                  have HW := Lib.hid (fun k (h : k ∈ keysL x.l) => keys_wf (HPB.out x.l (List.mem_of_getElem? HXP.out)) h)
                  have hwW : Hid (w.heap.size ≤ W1.heap.size) := by show _ ≤ _; omega
                  have CB10 := Lib.hid (CB9.out.keep k10)
                  have QL10 := Lib.hid (QL9.out.keep k10)
                  have hpick := HOK.out.pick (res := []) HLE.out (by rw [← HX.out, ← HXWW.out]; omega) (by rw [← HX.out]; omega) (by have := HXN.out; have := HON.out; omega)
                  have hgr : Hid (∀ res, Greedy c P size (x.l ++ out) (kn ++ keysL x.l) res → Greedy c P size [] [] res) := fun res hres => ST.out.greedy res ((HOK.out.pick (res := res) HLE.out (by rw [← HX.out, ← HXWW.out]; omega) (by rw [← HX.out]; omega) (by have := HXN.out; have := HON.out; omega)).2 hres)
                  have hok9 := Lib.hid hpick.1
                  have hfit9 : Hid ((x.l ++ out).length ≤ size) := by show _ ≤ _; rw [List.length_append]; have := HXN.out; have := HON.out; omega
                  have hkl2 : (keysL x.l).length ≤ 32 := by have := HXN.out; omega
                  clear own10 k10 HKY hpick hkl
                  obtain ⟨ks, hks⟩ : ∃ ks, ks = keysL x.l := ⟨_, rfl⟩
                  rw [← hks] at HS HW hgr hok9 hkl2 ⊢
                  clear hks
                  go_wp2_with fail
                  go_loopw [75] (fun s75 wr => ∃ (j : Nat) (f : List Int → Option Int), j ≤ ks.length ∧ s75 = .int .i64 j ∧ CB w vs P c W1.heap.size nk (kn ++ ks.take j) f (.slice ea (xn + on) ec) (x.l ++ out) wr ∧ QL (pvOf vs) w2.heap.size wr (w2.heap.size + 1) q' ∧ RdS wr (.slice ya ks.length yc) ks) (fun s75 _ => ks.length - (intOf s75).toNat)
                  case atStart => exact ⟨0, f, Nat.zero_le _, rfl, by simpa using CB10.out, QL10.out, HS.out⟩
                  case round =>
                    obtain ⟨j, f, hj, rfl, cbj, qlj, rdj⟩ := hrel
                    by_cases hlt : j < ks.length
                    · obtain ⟨k, hkk⟩ : ∃ k, ks[j]? = some k := ⟨_, List.getElem?_eq_getElem hlt⟩
                      obtain ⟨bb, oo, rfl, hbb, hcc⟩ := rdj.at hkk
                      have hjj : (j : Int) < (ks.length : Int) := by omega
                      have hcapj := RdW.cap rdj
                      have hwf := HW.out k (List.mem_of_getElem? hkk)
                      have CBJ := Lib.hid cbj
                      have QLJ := Lib.hid qlj
                      have RDJ := Lib.hid rdj
                      have HKJ : Hid (ks.take (j + 1) = ks.take j ++ [k]) := by show _ = _; rw [List.take_add_one, hkk]; rfl
                      clear cbj qlj rdj hkk
                      go_wp2_with (with_reducible refine wpList_delS (m := .tmp 79) (x := .tmp 80) rfl rfl rfl rfl CBJ.out.mp hwf ?_; intro w12 hm12 k12)
                      have cb12 : CB w vs P c W1.heap.size nk (kn ++ ks.take (j + 1)) (Go.Proofs.YtogengangfohfaaGreat.del f k) (.slice ea (xn + on) ec) (x.l ++ out) w12 := by
                        rw [HKJ.out, ← List.append_assoc]
                        exact CBJ.out.del k12 hm12 hwW.out
                      have ql12 : QL (pvOf vs) w2.heap.size w12 (w2.heap.size + 1) q' := QLJ.out.keeps k12 (fun b hb => by
                        rw [List.mem_singleton.1 hb]
                        obtain ⟨D, ⟨es, clock, hbm, r⟩, h2⟩ := CBJ.out.mp
                        exact ⟨_, hbm, (by intro cs h; cases h), (by intro cs h; cases h)⟩)
                      have rd12 : RdS w12 (.slice (some ⟨bb, oo, none⟩) ks.length yc) ks := RdW.keeps RDJ.out k12 (fun ad n cp he _ hm => by cases he; exact HSEP.out bb oo rfl (List.mem_singleton.1 hm))
                      go_roundw
                      case rel => exact ⟨j + 1, _, by omega, by go_num, cb12, ql12, rd12⟩
                      case measure => simp [intOf]; omega
                    · have hjj : decide ((j : Int) < (ks.length : Int)) = false := decide_eq_false (by omega)
                      have hall : ks.take j = ks := List.take_of_length_le (by omega)
                      rw [hall] at cbj
                      have hst : CSt w vs P c size w2.heap.size (w2.heap.size + 1) W1.heap.size nk q' (x.l ++ out) (kn ++ ks) f (.slice ea (xn + on) ec) wr := ⟨HH5.out, hok9.out, hgr.out, qlj, cbj, hfit9.out, hlq.out⟩
                      have HST := Lib.hid hst
                      have hc9 : Hid (costQ q' < gk) := by show _ < _; rw [hk.out, ← hcost.out, costQ_cons]; omega
                      clear cbj qlj rdj hst hall
                      go_wp2_with fail
                      go_roundg (costQ q')
                      case measure => exact hc9.out
                      case rel => exact ⟨q', x.l ++ out, kn ++ ks, f, .slice ea (xn + on) ec, rfl, HST.out⟩


end Go.Proofs.YtogengangfohfaaGreat
