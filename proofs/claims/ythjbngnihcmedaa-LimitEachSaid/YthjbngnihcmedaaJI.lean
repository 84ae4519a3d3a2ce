/-
  Walks over package limit: Lengths.
-/
import Derived.Test.YthjbngnihcmedaaJH
import Derived.Test.YthjbngnihcmedaaJP
import Derived.Laws.OwnMore
namespace Go.Proofs.Ythjbngnihcmedaa
set_option linter.unusedVariables false
set_option linter.unusedSimpArgs false
set_option linter.unusedSectionVars false
open Go.RowKit

theorem lengths2_ok : BothOk Try.prog 40 := fun va vb A B w ha hb h0 hl => lengths2_any va vb A B w ha hb h0 hl
theorem unlimited2_ok : BothOk Try.prog 45 := fun va vb A B w ha hb h0 hl => unlimited2_any va vb A B w ha hb h0 hl

/-- How Lengths, Unlimited, Uniform end: a list and an error. -/
def ListEnd (w : World) (L : List Int) (E : Int) (e : Ending) (w' : World) : Prop :=
  ∃ v, e = .returned (.tuple #[v, .int .i64 E]) ∧ RdI .i64 w' v L ∧ (∀ ad n c, v = .slice (some ad) n c → w.heap.size ≤ ad.block) ∧ Keeps w w' []

theorem fineP_of {l : List Int} {k : Nat} {row : PackL} (h : RowB l k row) (hk : k ≤ 11) : FineP row := fun p hp => by
  obtain ⟨h1, h2, h3, h4, -⟩ := (h.mono hk) p hp
  have e : (2 : Int) ^ 11 = 2048 := by decide
  have e2 : (2 : Nat) ^ 11 = 2048 := by decide
  exact ⟨h1, by omega, h3, by omega⟩

theorem wrap_powK (a : Nat) (h : a ≤ 20) : wrap64 ((2 : Int) ^ a) = ((2 ^ a : Nat) : Int) ∧ 2 ^ a ≤ 1048576 := by
  have h2 : (2:Nat) ^ a ≤ 2 ^ 20 := Nat.pow_le_pow_right (by decide) h
  have h3 : (2 : Nat) ^ 20 = 1048576 := by decide
  rw [h3] at h2
  have h4 : ((2 : Int) ^ a) = ((2 ^ a : Nat) : Int) := by simp
  refine ⟨?_, h2⟩
  rw [h4]
  generalize 2 ^ a = N at *
  exact IntWalk.wrap64_in _ ⟨by omega, by omega⟩

variable [SH : Shun]
theorem pre_readsK {w : World} {a : Option Addr} {n c m : Nat} {l : List Pack} (h : RdK w (.slice a n c) l) (hm : m ≤ n) : RdK w (.slice a m c) (l.take m) := by
  have hcap := h.cap
  have hlen := h.len
  obtain ⟨a', n', c', he, q1, q2, q3, hc⟩ := h.form
  cases he
  refine ⟨a, m, c, rfl, by simp; omega, by omega, (fun h => by have := q3 h; omega), fun h0 => ?_⟩
  obtain ⟨b, o, e, hb, hbg, h4⟩ := hc (by omega)
  exact ⟨b, o, e, hb, hbg, fun i x hx => h4 i x (by
    rw [List.getElem?_take] at hx
    split at hx
    · exact hx
    · cases hx)⟩
/-- A list of packages stays, whatever becomes of a block that holds no number. -/
theorem RdK.keepO {w w' : World} {v : Value} {l : List Pack} {O : Nat} (h : RdK w v l) (hO : ∀ j x, w.cell? ⟨O, j, none⟩ ≠ some (.int .i64 x)) (k : Keeps w w' [O]) : RdK w' v l := by
  obtain ⟨a, n, cp, rfl, h1, h2, h3, hc⟩ := h.form
  refine ⟨a, n, cp, rfl, h1, h2, h3, fun h0 => ?_⟩
  obtain ⟨b, o, rfl, hb, hbg, h4⟩ := hc h0
  have hbO : b ≠ O := fun e => by
    subst e
    obtain ⟨p, hp⟩ : ∃ p, l[0]? = some p := ⟨_, List.getElem?_eq_getElem (by omega)⟩
    exact hO _ _ (h4 0 p hp).1
  refine ⟨b, o, rfl, Nat.lt_of_lt_of_le hb k.size, hbg, fun i p hp => ?_⟩
  obtain ⟨e1, vi, e2, e3⟩ := h4 i p hp
  refine ⟨(k.cell (p := ⟨b, o + i * 2, none⟩) hb (by simpa using hbO)).trans e1, vi, (k.cell (p := ⟨b, o + i * 2 + 1, none⟩) hb (by simpa using hbO)).trans e2, e3.1.keepsS k (fun ad n c he h0 hm => ?_), e3.2⟩
  subst he
  obtain ⟨b', o', e', hb', h5⟩ := e3.1.addr h0
  cases e'
  have hm := List.mem_singleton.1 hm
  dsimp only at hm
  subst hm
  obtain ⟨x, hx⟩ : ∃ x, p.2[0]? = some x := ⟨_, List.getElem?_eq_getElem (by have := e3.1.len; omega)⟩
  exact hO _ _ (h5 0 x hx)
theorem RdK.atO {w w' : World} {a : Option Addr} {n cp : Nat} {l : List Pack} {O : Nat} (h : RdK w (.slice a n cp) l) (hO : ∀ j x, w.cell? ⟨O, j, none⟩ ≠ some (.int .i64 x)) (k : Keeps w w' [O]) {i : Nat} {p : Pack} (hp : l[i]? = some p) :
    ∃ b o av cv, a = some ⟨b, o, none⟩ ∧ b < w.heap.size ∧ w'.cell? ⟨b, o + i * 2, none⟩ = some (.int .i64 p.1) ∧ w'.cell? ⟨b, o + i * 2 + 1, none⟩ = some (.slice av p.2.length cv) ∧ RdI .i64 w (.slice av p.2.length cv) p.2 ∧ ∀ ad, av = some ad → 0 < p.2.length → ad.block ≠ O := by
  obtain ⟨b, o, vi, rfl, hb, c0, c1, ri, -⟩ := h.at hp
  obtain ⟨av, nv, cv, rfl, hnv, -⟩ := ri.form
  subst hnv
  have hbO : b ≠ O := fun e => by subst e; exact hO _ _ c0
  refine ⟨b, o, av, cv, rfl, hb, (k.cell (p := ⟨b, o + i * 2, none⟩) hb (by simpa using hbO)).trans c0, (k.cell (p := ⟨b, o + i * 2 + 1, none⟩) hb (by simpa using hbO)).trans c1, ri, fun ad he h0 hm => ?_⟩
  subst he
  obtain ⟨b', o', e', hb', h5⟩ := ri.addr h0
  cases e'
  dsimp only at hm
  subst hm
  obtain ⟨x, hx⟩ : ∃ x, p.2[0]? = some x := ⟨_, List.getElem?_eq_getElem h0⟩
  exact hO _ _ (h5 0 x hx)
omit SH in
theorem make_list (n : Nat) (hn : n ≤ 1000000) (w : World) : ∃ w', (Instr.makeSlice 22 (.int .i64 (n : Int)) (.int .i64 (n : Int))).run Try.prog w = .ok (.slice (some ⟨w.heap.size, 0, none⟩) n n) w' ∧
    RowI w' w.heap.size n n (List.replicate n 0) ∧ Keeps w w' [] := by
  obtain ⟨i0, hi, hz0, hz1, hz2⟩ := info_parts Try.infoInt
  obtain ⟨w', h1, h2, h3⟩ := run_make_full (P := Try.prog) w w.heap.size 22 3 i0 (.int .i64 0) 1 Try.underlying22 hi hz0 hz1 .i64 .i64 n (by rw [hz2]; omega) (by unfold maxLen; omega) (Nat.le_refl _)
  refine ⟨w', h1, ⟨List.length_replicate .., ?_⟩, Keeps.of_grown h3 (fun k hk => by cases hk)⟩
  have e : (madeCells (Value.int .i64 0).cells (n * 1)).toList = List.map (Value.int .i64) (List.replicate n 0) := by
    rw [Nat.mul_one, List.map_replicate]
    exact toList_madeCells_one _ n
  rw [e] at h2
  exact own_base h2 (Nat.zero_le _)

set_option maxRecDepth 100000 in
set_option maxHeartbeats 8000000 in
omit SH in
theorem lengths_yes (v : Value) (l : List Int) (m : Nat) (w : World) (hv : RdI .i64 w v l) (hr : rightL l = true) (hm1 : 1 ≤ m) (hm2 : m ≤ 11) (hu1 : 1 < (usedL l).length) (hu2 : (usedL l).length ≤ 2 ^ m) :
    Calls Try.prog 14 #[v, .int .i64 m] w (ListEnd w (bumpP (List.replicate l.length 0) ((rowP (firstP l) (m - 1)).take (2 * (usedL l).length - 2))) 0) := by
  have hmf : ∀ (fn : Fn) (first cap : Array Value) (w : World), (Instr.makeFunc fn first cap).run Try.prog w = .ok (.func fn first cap) w := fun _ _ _ _ => rfl
  obtain ⟨SH, hSH⟩ : ∃ S : Shun, S.g = w.heap.size := ⟨⟨_⟩, rfl⟩
  have hl256 := (rightL_iff.1 hr).1
  have HV := Lib.hid hv
  have HR := Lib.hid hr
  have HB := Lib.hid (rowB_row hr)
  obtain ⟨A0, n, cp0, rfl, hnl, -⟩ := hv.form
  obtain ⟨i0, hi, hz0, hz1, hz2⟩ := info_parts Try.infoPack
  obtain ⟨j0, hj, yz0, yz1, yz2⟩ := info_parts Try.infoInt
  have HN := Lib.hid hnl
  have hul := usedL_len l
  have hA : Hid (askE l true = 0) := by show _ = _; simp [askE, hr, hu1]
  have HFL : Hid ((firstP l).length = (usedL l).length) := firstP_len l
  have HENO : Hid (2 * (usedL l).length - 2 ≤ (rowP (firstP l) (m - 1)).length) := by
    have := rowP_enough (s := firstP l) (m := m) (by rw [firstP_len]; omega) hm1 (by rw [firstP_len]; exact hu2)
    rw [firstP_len] at this; exact this
  have HRL := Lib.hid (rowP_len (firstP l))
  have d1 : decide ((1 : Int) ≤ (m : Int)) = true := decide_eq_true (by omega)
  have d2 : decide ((m : Int) ≤ 11) = true := decide_eq_true (by omega)
  have hm11 : (1 : Int) ≤ (m : Int) := by omega
  have hm12 : (m : Int) ≤ 11 := by omega
  obtain ⟨N, hN⟩ : ∃ N, N = (usedL l).length := ⟨_, rfl⟩
  rw [← hN] at hu1 hu2 hul HFL HENO ⊢
  have hN256 : N ≤ 256 := by omega
  have hn256 : n ≤ 256 := by omega
  have HU2 := Lib.hid hu2
  clear hv hr hnl hN hu2
  go_enter_defers Try.func14, Try.ntmps14
  go_wp2_with fail
  have k0 : Keeps w (((w.alloc (.cells #[.slice none 0 0] 22)).alloc (.cells #[.int .i64 0] 26)).alloc (.cells #[.bool true] 4)) [] := (((Keeps.refl w []).alloc _).alloc _).alloc _
  have bo := ((Blk.new w #[.slice none 0 0] 22).alloc (.cells #[.int .i64 0] 26)).alloc (.cells #[.bool true] 4)
  have be := (Blk.new (w.alloc (.cells #[.slice none 0 0] 22)) #[.int .i64 0] 26).alloc (.cells #[.bool true] 4)
  have bf := Blk.new ((w.alloc (.cells #[.slice none 0 0] 22)).alloc (.cells #[.int .i64 0] 26)) #[.bool true] 4
  simp only [World.size_alloc] at be bf
  refine (asked_any true _ _ l _ (HV.out.keeps k0) (contains1_any _ true _ bf) (by omega)).mono ?_
  rintro e w1 ⟨h1, -, k1⟩
  obtain rfl := h1 hA.out
  have hk1 := k1.size
  simp only [World.size_alloc] at hk1
  replace bo := bo.keeps k1 (by simp)
  replace be := be.keeps k1 (by simp)
  replace k0 := k0.then k1
  have bl := Blk.new w1 #[.slice A0 n cp0] 59
  obtain ⟨c0, -⟩ := bl.one
  clear bf k1 h1
  go_wp2_with fail
  refine (first_any _ l _ ((HV.out.keeps k0).keeps ((Keeps.refl w1 []).alloc _)) HR.out (by rw [World.size_alloc]; omega)).mono ?_
  rintro e w2 ⟨v2, rfl, o2, k2⟩
  obtain ⟨a2, c2, rfl⟩ := o2.form
  rw [HFL.out] at o2
  have RS := Lib.hid (o2.reads (by rw [World.size_alloc]; omega))
  replace bo := (bo.alloc (.cells #[.slice A0 n cp0] 59)).keeps k2 (by simp)
  replace be := (be.alloc (.cells #[.slice A0 n cp0] 59)).keeps k2 (by simp)
  replace k0 := (k0.alloc (.cells #[.slice A0 n cp0] 59)).then k2
  have hs2 : w.heap.size + 1 < w2.heap.size := be.lt
  clear o2 k2 bl c0
  rw [HFL.out]
  obtain ⟨hpw, hpb⟩ := wrap_powK m (by omega)
  have HU3 : (N : Int) ≤ ((2 ^ m : Nat) : Int) := Int.ofNat_le.2 HU2.out
  generalize 2 ^ m = PW at hpw HU3 hpb
  have hd3 : decide ((N : Int) ≤ (PW : Int)) = true := decide_eq_true HU3
  go_wp2_with fail
  refine (must_yes 18 w2).mono ?_
  rintro e w3 ⟨rfl, rfl⟩
  have wm : IntKind.i64.wrap ((m : Int) - 1) = ((m - 1 : Nat) : Int) := by rw [IntWalk.i64_in _ (by omega)]; omega
  clear hpw HU3 hpb hd3
  go_wp2_with fail
  go_loopw [34, 8] (fun s34 s8 wr => ∃ (k nr cr : Nat) (ar : Option Addr), k ≤ m - 1 ∧ s34 = .int .i64 k ∧ s8 = .slice ar nr cr ∧ Hid (RdK wr (.slice ar nr cr) (rowP (firstP l) k)) ∧ Keeps w2 wr []) (fun s34 _ _ => m - 1 - (intOf s34).toNat)
  case atStart => exact ⟨0, N, c2, a2, Nat.zero_le _, rfl, rfl, RS.out, Keeps.refl _ _⟩
  case round =>
    obtain ⟨k, nr, cr, ar, hk, rfl, rfl, hRow, kr⟩ := hrel
    by_cases hlt : k < m - 1
    · have hRL := HRL.out k
      rw [HFL.out] at hRL
      have PA := Lib.hid (paired_any 40 _ _ wr (enters_of Try.func40 (by kernel_rfl) rfl) lengths2_ok hRow.out (by omega) (fineP_of (HB.out k) (by omega)) (by have := kr.size; omega))
      go_wp2_with fail
      refine PA.out.mono ?_
      rintro e w3 ⟨v3, rfl, o3, k3⟩
      have hk3 := k3.size
      have hkr0 := kr.size
      obtain ⟨a3, c3, rfl⟩ := o3.form
      have MA := Lib.hid (merged_any _ _ _ _ w3 ((RS.out.keep kr).keep k3) (o3.reads (by omega)) (by rw [HFL.out, pairedP_len]; omega))
      have kr3 := kr.then k3
      clear o3 k3 PA
      go_wp2_with fail
      refine MA.out.mono ?_
      rintro e w4 ⟨v4, rfl, o4, k4⟩
      obtain ⟨a4, c4, rfl⟩ := o4.form
      have R4 : Hid (RdK w4 (.slice a4 (rowP (firstP l) (k + 1)).length c4) (rowP (firstP l) (k + 1))) := o4.reads (by omega)
      have kr4 := kr3.then k4
      clear o4 k4 MA kr3
      go_wp2_with fail
      go_roundw
      case rel => exact ⟨k + 1, (rowP (firstP l) (k + 1)).length, c4, a4, by omega, by go_num, rfl, R4, kr4⟩
      case measure => simp [intOf]; omega
    · obtain rfl : k = m - 1 := by omega
      obtain ⟨w5, hmk, row5, k5⟩ := make_list n (by omega) wr
      have G5 := row5.lt
      have ROW5 := Lib.hid row5
      have bo5 := (bo.keeps kr (by simp)).keeps k5 (by simp)
      have be5 := (be.keeps kr (by simp)).keeps k5 (by simp)
      obtain ⟨q1, q2⟩ := bo5.one
      have hRN := hRow.out.len
      have hENO := HENO.out
      have hkr := kr.size
      have rpre := pre_readsK hRow.out (m := 2 * N - 2) (by omega)
      have hcr : 2 * N - 2 ≤ cr := by have := hRow.out.cap; omega
      have hcr' : ((2 * N - 2 : Nat) : Int) ≤ (cr : Int) := by omega
      have hc0 : (0 : Int) ≤ ((2 * N - 2 : Nat) : Int) := by omega
      have e0 : ar.map (·.add 0) = ar := by cases ar <;> simp [Addr.add]
      have hpre' : (2 : Int) * (N : Int) - 2 = ((2 * N - 2 : Nat) : Int) := by omega
      have wn1 : IntKind.i64.wrap (2 * (N : Int)) = 2 * (N : Int) := IntWalk.i64_in _ (by omega)
      have wn2 : IntKind.i64.wrap (((2 * N - 2 : Nat) : Int)) = ((2 * N - 2 : Nat) : Int) := IntWalk.i64_in _ (by omega)
      have RPRE := Lib.hid rpre
      clear row5 rpre
      go_wp2_with fail
      have hkwr := k0.then kr
      have hG : w.heap.size + 1 < wr.heap.size := (be.keeps kr (by simp)).lt
      have NOI : Hid (∀ j x, wr.cell? ⟨w.heap.size, j, none⟩ ≠ some (.int .i64 x)) := fun j x h => by
        have hb := (bo.keeps kr (by simp)).cell j
        rw [h] at hb
        match j, hb with
        | 0, hb => cases hb
        | j + 1, hb => simp at hb
      obtain ⟨W6, hW6⟩ : ∃ W6, W6 = w5.setCell ⟨w.heap.size, 0, none⟩ (.slice (some ⟨wr.heap.size, 0, none⟩) n n) := ⟨_, rfl⟩
      have BO6 : Hid (Blk W6 w.heap.size #[.slice (some ⟨wr.heap.size, 0, none⟩) n n] 22) := by rw [hW6]; exact bo5.set 0 _
      have BE6 : Hid (Blk W6 (w.heap.size + 1) #[.int .i64 0] 26) := by rw [hW6]; exact be5.setOther (by dsimp only; omega) _
      have K56 : Keeps w5 W6 [w.heap.size] := by rw [hW6]; exact (Keeps.refl w5 _).setCell (.inr (by simp)) _
      have ROW6 : Hid (RowI W6 wr.heap.size n n (List.replicate n 0)) := ROW5.out.keeps K56 (by simp; omega)
      have K6 : Keeps wr W6 [w.heap.size] := (k5.mono (S' := [w.heap.size]) (fun _ h => by cases h)).trans K56 (fun x hx _ => hx)
      rw [← hW6]
      clear hW6 K56 q1 q2 bo5 be5 ROW5 hmk bo be kr k5 k0 HRL RS hcr hcr' hpre' wn1 wn2 e0 hRN hc0 wm
      obtain ⟨RL, hRL⟩ : ∃ RL, RL = (rowP (firstP l) (m - 1)).take (2 * N - 2) := ⟨_, rfl⟩
      have HRB : Hid (RowB l 10 RL) := by
        rw [hRL]
        exact fun p hp => ((HB.out (m - 1)).mono (by omega)) p (List.mem_of_mem_take hp)
      have HRLL : Hid (RL.length = 2 * N - 2) := by show _ = _; rw [hRL, List.length_take]; omega
      rw [← hRL] at RPRE ⊢
      have HRLE := Lib.hid hRL
      clear hRL hENO HENO HB hRow
      obtain ⟨wo, rfl⟩ : ∃ wo : World, wo = wr := ⟨_, rfl⟩
      obtain ⟨M, hM⟩ : ∃ M, M = 2 * N - 2 := ⟨_, rfl⟩
      have hM510 : M ≤ 510 := by omega
      have HME := Lib.hid hM
      rw [← hM] at RPRE HRLL ⊢
      clear hM
      have HNL : Hid (l.length = n) := by have := HN.out; show _ = _; omega
      go_loopw [51] (fun s51 wr => ∃ k : Nat, k ≤ M ∧ s51 = .int .i64 k ∧ Hid (RowI wr wo.heap.size n n (bumpP (List.replicate n 0) (RL.take k))) ∧ Hid (Blk wr w.heap.size #[.slice (some ⟨wo.heap.size, 0, none⟩) n n] 22) ∧ Hid (Blk wr (w.heap.size + 1) #[.int .i64 0] 26) ∧ Keeps wo wr [w.heap.size]) (fun s51 _ => M - (intOf s51).toNat)
      case atStart => exact ⟨0, Nat.zero_le _, rfl, ROW6, BO6, BE6, K6⟩
      case round =>
        obtain ⟨k, hk, rfl, hRow, hBO, hBE, kw⟩ := hrel
        by_cases hlt : k < M
        · obtain ⟨p, hp⟩ : ∃ p, RL[k]? = some p := ⟨_, List.getElem?_eq_getElem (by have := HRLL.out; omega)⟩
          obtain ⟨b, o, av, cv, rfl, hb, c0, c1, ri, riO⟩ := RPRE.out.atO NOI.out kw hp
          have hcap := RPRE.out.cap
          have hkI : (k : Int) < (M : Int) := by omega
          have hk0 : (0 : Int) ≤ (k : Int) := Int.natCast_nonneg _
          have hsz := kw.size
          have fp := HRB.out p (List.mem_of_getElem? hp)
          have e10 : (2 : Nat) ^ 10 = 1024 := by decide
          have RI := Lib.hid ri
          have FPS := Lib.hid fp.2.2.2.2
          have hpl : p.2.length ≤ 1024 := by rw [← e10]; exact fp.2.2.2.1
          have HTK : Hid (RL.take (k + 1) = RL.take k ++ [p]) := by show _ = _; rw [List.take_add_one, hp]; rfl
          have HBD : Hid (BdL (510 * 1024) (bumpP (List.replicate n 0) (RL.take k))) := by
            have h0 : BdL 0 (List.replicate n 0) := fun x hx => by have := List.eq_of_mem_replicate hx; subst this; omega
            refine (bumpP_bd h0 (RL.take k) (m := 1024) (fun q hq => ?_)).mono ?_
            · rw [← e10]; exact (HRB.out q (List.mem_of_mem_take hq)).2.2.2.1
            · rw [List.length_take]
              have : min k RL.length * 1024 ≤ 510 * 1024 := Nat.mul_le_mul_right _ (by omega)
              omega
          have HBL : Hid ((bumpP (List.replicate n 0) (RL.take k)).length = n) := by show _ = _; rw [bumpP_len]; exact List.length_replicate ..
          clear hp fp ri
          go_wp2_with fail
          obtain ⟨CUR, hCUR⟩ : ∃ CUR, CUR = bumpP (List.replicate n 0) (RL.take k) := ⟨_, rfl⟩
          have HCUR := Lib.hid hCUR.symm
          rw [← hCUR] at hRow HBD HBL
          clear hCUR
          have kwa := kw.alloc (.cells #[.int .i64 p.1, .slice av p.2.length cv] 68)
          have kra := (Keeps.refl wr []).alloc (.cells #[.int .i64 p.1, .slice av p.2.length cv] 68)
          obtain ⟨W7, hW7⟩ : ∃ W7, W7 = wr.alloc (.cells #[.int .i64 p.1, .slice av p.2.length cv] 68) := ⟨_, rfl⟩
          rw [← hW7] at kwa kra ⊢
          have ROW7 := Lib.hid (hRow.out.keeps kra (by simp))
          have BO7 := Lib.hid (hBO.out.keeps kra (by simp))
          have BE7 := Lib.hid (hBE.out.keeps kra (by simp))
          clear hRow hBO hBE c0 c1 hW7 ROW6 BO6 BE6 K6
          obtain ⟨wo2, rfl⟩ : ∃ wo2 : World, wo2 = wr := ⟨_, rfl⟩
          go_loopw [58] (fun s58 wr => ∃ j : Nat, j ≤ p.2.length ∧ s58 = .int .i64 j ∧ Hid (RowI wr wo.heap.size n n (bumps CUR (p.2.take j))) ∧ Hid (Blk wr w.heap.size #[.slice (some ⟨wo.heap.size, 0, none⟩) n n] 22) ∧ Hid (Blk wr (w.heap.size + 1) #[.int .i64 0] 26) ∧ Keeps W7 wr [wo.heap.size]) (fun s58 _ => p.2.length - (intOf s58).toNat)
          case atStart => exact ⟨0, Nat.zero_le _, rfl, ROW7, BO7, BE7, Keeps.refl _ _⟩
          case round =>
            obtain ⟨j, hj, rfl, hRow, hBO, hBE, kv⟩ := hrel
            by_cases hlt2 : j < p.2.length
            · obtain ⟨sy, hsy⟩ : ∃ sy, p.2[j]? = some sy := ⟨_, List.getElem?_eq_getElem hlt2⟩
              obtain ⟨y, rfl, hyn⟩ := FPS.out sy (List.mem_of_getElem? hsy)
              rw [HNL.out] at hyn
              have kwx : Keeps wo wr [w.heap.size] := kwa.trans kv (fun x hx hlt => by have := List.mem_singleton.1 hx; omega)
              have rix := RI.out.keepsS kwx (fun ad n c he h0 hm => by cases he; exact riO _ rfl h0 (List.mem_singleton.1 hm))
              obtain ⟨b1, o1, rfl, hb1, c1⟩ := rix.at hsy
              have hcap1 := rix.cap
              obtain ⟨x, hx⟩ : ∃ x, (bumps CUR (p.2.take j))[y]? = some x := ⟨_, List.getElem?_eq_getElem (by rw [bumps_len, HBL.out]; exact hyn)⟩
              have hxb := ((bumps_bd HBD.out (p.2.take j))) x (List.mem_of_getElem? hx)
              rw [List.length_take] at hxb
              have hx1 : 0 ≤ x ∧ x ≤ 1000000 := by omega
              have c2 := hRow.out.at hx
              have c3 := hRow.out.frozen y
              obtain ⟨c4, c5⟩ := hBO.out.one
              have wx : IntKind.i64.wrap (x + 1) = x + 1 := IntWalk.i64_in _ (by omega)
              have hjI : (j : Int) < (p.2.length : Int) := by omega
              have hj0 : (0 : Int) ≤ (j : Int) := Int.natCast_nonneg _
              have hyI : (y : Int) < (n : Int) := by omega
              have hy0 : (0 : Int) ≤ (y : Int) := Int.natCast_nonneg _
              have NXT : Hid (bumps CUR (p.2.take (j + 1)) = (bumps CUR (p.2.take j)).set y (x + 1)) := by
                show _ = _
                rw [List.take_add_one, hsy]
                show bumps CUR (_ ++ [(y : Int)]) = _
                rw [bumps_snoc]
                unfold bump
                rw [Int.toNat_natCast, hx]; rfl
              clear hsy hx hxb rix
              go_wp2_with fail
              have NR : Hid (RowI (wr.setCell ⟨wo.heap.size, y, none⟩ (.int .i64 (x + 1))) wo.heap.size n n (bumps CUR (p.2.take (j + 1)))) := by
                show RowI _ _ _ _ _
                rw [NXT.out]
                exact hRow.out.set y (x + 1)
              go_roundw
              case rel => exact ⟨j + 1, by omega, by go_num, NR, hBO.out.setOther (by dsimp only; omega) _, hBE.out.setOther (by dsimp only; omega) _, kv.setCell (.inr (by simp)) _⟩
              case measure => simp [intOf]; omega
            · obtain rfl : j = p.2.length := by omega
              go_wp2_with fail
              have DONE : Hid (RowI wr wo.heap.size n n (bumpP (List.replicate n 0) (RL.take (k + 1)))) := by
                have h := hRow.out
                rw [List.take_length] at h
                show RowI _ _ _ _ _
                rw [HTK.out, bumpP_snoc, HCUR.out]
                exact h
              go_roundw
              case rel => exact ⟨k + 1, by omega, by go_num, DONE, hBO, hBE, kwa.trans kv (fun x hx hlt => by have := List.mem_singleton.1 hx; omega)⟩
              case measure => simp [intOf]; omega
        · obtain rfl : k = M := by omega
          have c4 := hBO.out.one
          have c5 := hBE.out.one
          obtain ⟨c4, c6⟩ := c4
          obtain ⟨c5, c7⟩ := c5
          go_wp2_with fail
          refine leaves_cons (f := 33) (args := #[.pointer (some ⟨w.heap.size + 1, 0, none⟩), .func (.func 34) #[] #[.pointer (some ⟨w.heap.size, 0, none⟩)]]) (by simp) (by simp [go_sem]) ?_
          refine (caught_idle _ _ _).mono ?_
          rintro e u' w'' ⟨rfl, rfl, rfl⟩
          refine ⟨.tuple #[.slice (some ⟨wo.heap.size, 0, none⟩) n n, .int .i64 0], by simp only [results, Try.results14]; go_simp, ?_⟩
          have HR2 := hRow.out
          rw [List.take_of_length_le (Nat.le_of_eq HRLL.out)] at HR2
          have HEQ : bumpP (List.replicate l.length 0) (List.take (2 * N - 2) (rowP (firstP l) (m - 1))) = bumpP (List.replicate n 0) RL := by rw [HRLE.out, HNL.out]
          rw [HEQ]
          refine ⟨_, rfl, ?_, ?_, ?_⟩
          · have h2 := ((hBO.out.set 0 (.slice (some ⟨wo.heap.size, 0, none⟩) n n)))
            exact (((HR2.keeps (S := [w.heap.size]) ((Keeps.refl wr _).setCell (.inr (by simp)) _) (by simp; omega)).keeps (S := [w.heap.size + 1]) ((Keeps.refl _ _).setCell (.inr (by simp)) _) (by simp; omega))).reads
          · intro ad n' c' he
            cases he
            dsimp only
            omega
          · have kk := hkwr.trans (S' := [w.heap.size]) kw (fun x hx hlt => by have := List.mem_singleton.1 hx; omega)
            exact Keeps.setCell' (.inl (by dsimp only; omega)) (Keeps.setCell' (.inl (by dsimp only; omega)) kk)

end Go.Proofs.Ythjbngnihcmedaa
