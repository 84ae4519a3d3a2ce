/-
  Walks over package train: pieces, Segments.
-/
import Derived.Test.YtogengangfohfaaGreatQ10
import Derived.Test.YtogengangfohfaaGreatQ13
import Derived.Test.YtogengangfohfaaGreatQ7
namespace Go.Proofs.YtogengangfohfaaGreat
set_option linter.unusedVariables false
set_option linter.unusedSimpArgs false
set_option linter.unusedSectionVars false
open Go.RowKit

/-- The memory of a slice of bytes is a block of bytes. -/
def InB (w : World) (v : Value) : Prop := ∀ ad n c, v = .slice (some ad) n c → 0 < n → ∃ cs, Blk w ad.block cs 5
/-- The values read as the pieces. -/
def PcV (w : World) (vs : List Value) (ls : List (List Int)) : Prop := RdV .u8 w vs ls ∧ ∀ v ∈ vs, InB w v
/-- No block of bytes is among these. -/
def NoB (w : World) (S : List Nat) : Prop := ∀ g ∈ S, ∀ cs, ¬ Blk w g cs 5
section
variable {w w' : World} {vs : List Value} {ls : List (List Int)} {S : List Nat} {v : Value} {l : List Int}
theorem NoB.nil : NoB w [] := fun _ h => by cases h
theorem NoB.own {base : Nat} {e : TypeId} {size n : Nat} {xs : List Value} (h : w.ownsRow base e size v n xs) (he : e ≠ 5) : NoB w (ownL v) := fun g hg cs hb =>
  own_neO h hb (fun cs h => by cases h; exact he rfl) (mem_ownL.1 hg)
theorem InB.keeps (h : InB w v) (k : Keeps w w' S) (hS : NoB w S) : InB w' v := fun ad n c e h0 => by
  obtain ⟨cs, hb⟩ := h ad n c e h0
  exact ⟨cs, hb.keeps k (fun hm => hS _ hm cs hb)⟩
theorem RdI.keepsB (hr : RdI .u8 w v l) (h : InB w v) (k : Keeps w w' S) (hS : NoB w S) : RdI .u8 w' v l :=
  hr.keepsS k (fun ad n c e h0 hm => by
    obtain ⟨cs, hb⟩ := h ad n c e h0
    exact hS _ hm cs hb)
theorem PcV.keeps (h : PcV w vs ls) (k : Keeps w w' S) (hS : NoB w S) : PcV w' vs ls :=
  ⟨⟨h.1.1, fun j l hl => by
    obtain ⟨v, h1, h2⟩ := h.1.2 j l hl
    exact ⟨v, h1, h2.keepsB (h.2 v (List.mem_of_getElem? h1)) k hS⟩⟩, fun v hv => (h.2 v hv).keeps k hS⟩
theorem PcV.nil : PcV w [] [] := ⟨RdV.nil, fun _ h => by cases h⟩
theorem PcV.snoc (h : PcV w vs ls) (hv : RdI .u8 w v l) (hb : InB w v) : PcV w (vs ++ [v]) (ls ++ [l]) :=
  ⟨h.1.snoc hv, fun u hu => by
    rcases List.mem_append.1 hu with hu | hu
    · exact h.2 u hu
    · simp at hu; subst hu; exact hb⟩
theorem PcV.chunks {g o c : Nat} {ad : Option Addr} {b : List Int} (had : 0 < b.length → ad = some ⟨g, o, none⟩) (h : PcV w vs ls) (hr : RdI .u8 w (.slice ad b.length c) b) (hb : 0 < b.length → ∃ cs, Blk w g cs 5) : ∀ k, k ≤ chN b.length → PcV w (vs ++ upto (chV g o b.length) k) (ls ++ (chunkL b).take k) := by
  intro k
  induction k with
  | zero => intro _; simpa [upto] using h
  | succ k ih =>
    intro hk
    have hlt : 32 * k < b.length := by unfold chN at hk; omega
    obtain rfl := had (by omega)
    rw [upto_succ, chunk_take hlt, ← List.append_assoc, ← List.append_assoc]
    refine (ih (by omega)).snoc ?_ (fun ad n c e h0 => ?_)
    · have hp := hr.piece (p := 32 * k) (q := min 32 (b.length - 32 * k)) (by omega) (min 32 (b.length - 32 * k)) (Nat.le_refl _)
      have e : (b.drop (32 * k)).take (min 32 (b.length - 32 * k)) = (b.drop (32 * k)).take 32 := by
        rw [List.take_eq_take_iff]; simp
      rw [e] at hp
      exact hp
    · unfold chV at e; cases e
      exact hb (by omega)
theorem PcV.len (h : PcV w vs ls) : vs.length = ls.length := h.1.1
theorem PcV.at (h : PcV w vs ls) {i : Nat} (hl : ls[i]? = some l) : ∃ v, vs[i]? = some v ∧ RdI .u8 w v l ∧ InB w v := by
  obtain ⟨v, h1, h2⟩ := h.1.2 i l hl
  exact ⟨v, h1, h2, h.2 v (List.mem_of_getElem? h1)⟩
/-- The cell of element i of a row. -/
theorem OwnV.at {base n c : Nat} {a : Option Addr} (h : OwnV w base (.slice a n c) vs) {i : Nat} (hv : vs[i]? = some v) : n = vs.length ∧ n ≤ c ∧ ∃ g, a = some ⟨g, 0, none⟩ ∧ g < w.heap.size ∧ w.cell? ⟨g, i, none⟩ = some v := by
  have hlt := (List.getElem?_eq_some_iff.1 hv).1
  rcases h.2 with ⟨e, h0⟩ | ⟨g, cp, cur, e, hb, hg, hn, hm, hs, ht⟩
  · cases e; omega
  · cases e
    refine ⟨rfl, hn, g, rfl, (Array.getElem?_eq_some_iff.1 hg).1, ?_⟩
    rw [cell_of_row w g i cur 33 (0, 0) hg]
    have h1 : (cur.toList.take (vs.length * 1))[i]? = vs[i]? := by rw [ht]
    rw [List.getElem?_take, if_pos (by omega), hv] at h1
    simpa using h1
theorem OwnV.shape {base : Nat} (h : OwnV w base v vs) : ∃ a c, v = .slice a vs.length c := own_form h
theorem OwnV.nil {base : Nat} : OwnV w base (.slice none 0 0) [] := World.ownsRow_nil _ _ _ _
end

theorem pieces1_any {b : Bool} (a : Option Addr) (n c : Nat) (w : World) (h : decide (6 ≤ n) = b) :
    Calls Tryz.prog 104 #[.slice a n c] w fun e w' => e = .returned (.bool b) ∧ w = w' := by
  subst h
  by_cases h : 6 ≤ n
  · have h1 : (6 : Int) ≤ (n : Int) := by omega
    simp only [h, decide_true]
    go_enter Tryz.func104, Tryz.ntmps104
    go_wp2
    go_ret
    exact ⟨rfl, rfl⟩
  · have h1 : decide ((6 : Int) ≤ (n : Int)) = false := decide_eq_false (by omega)
    simp only [h, decide_false]
    go_enter Tryz.func104, Tryz.ntmps104
    go_wp2
    go_ret
    exact ⟨rfl, rfl⟩

theorem chunk_any (a : Option Addr) (n c : Nat) (w : World) :
    Calls Tryz.prog 102 #[.slice a n c, .int .i64 32] w fun e w' => e = .returned (.func (.func 173) #[] #[.pointer (some ⟨w.heap.size, 0, none⟩), .pointer (some ⟨w.heap.size + 1, 0, none⟩)]) ∧
      w' = (w.alloc (.cells #[.slice a n c] 33)).alloc (.cells #[.int .i64 32] 3) := by
  have hmf : ∀ (fn : Fn) (first cap : Array Value) (w : World), (Instr.makeFunc fn first cap).run Tryz.prog w = .ok (.func fn first cap) w := fun _ _ _ _ => rfl
  go_enter Tryz.func102, Tryz.ntmps102
  go_wp2_with fail
  go_ret
  exact ⟨rfl, rfl⟩

/-- Pieces in memory of the call's own. -/
def PcEnd (w : World) (ls : List (List Int)) (e : Ending) (w' : World) : Prop := ∃ v' vs', e = .returned v' ∧ OwnV w' w.heap.size v' vs' ∧ PcV w' vs' ls ∧ Keeps w w' []

set_option maxRecDepth 100000 in
set_option maxHeartbeats 2000000 in
theorem sifted_any (v : Value) (vs : List Value) (ls : List (List Int)) (B : Nat) (w : World) (hown : OwnV w B v vs) (hp : PcV w vs ls) (hl : ls.length ≤ 1000000000) :
    Calls Tryz.prog 103 #[v, .func (.func 104) #[] #[]] w (PcEnd w (longP ls)) := by
  obtain ⟨j0, hj0, yz0, yz1, yz2⟩ := info_parts Tryz.infoSl
  obtain ⟨a, c, rfl⟩ := hown.shape
  have hvl := hp.len
  have HO := Lib.hid hown
  have HP := Lib.hid hp
  have HVL := Lib.hid hvl
  have hl' : vs.length ≤ 1000000000 := by omega
  clear hown hp hvl hl
  obtain ⟨N, hN⟩ : ∃ N, N = vs.length := ⟨_, rfl⟩
  rw [← hN] at hl' HO ⊢
  have HN := Lib.hid hN
  clear hN
  go_enter Tryz.func103, Tryz.ntmps103
  go_wp2_with fail
  go_loopw [4, 9] (fun s4 s9 wr => ∃ (i : Nat) (a : Option Addr) (c M : Nat) (us : List Value), i ≤ N ∧ s9 = .int .i64 i ∧ s4 = .slice a M c ∧ M ≤ i ∧ wr.ownsRow w.heap.size 33 1 s4 M us ∧ Hid (us.length = M) ∧ PcV wr us (longP (ls.take i)) ∧ Keeps w wr []) (fun _ s9 _ => N - (intOf s9).toNat)
  case atStart => exact ⟨0, none, 0, 0, [], Nat.zero_le _, rfl, rfl, Nat.le_refl _, World.ownsRow_nil _ _ _ _, rfl, PcV.nil, Keeps.refl _ _⟩
  case round =>
    obtain ⟨i, a2, c2, M, us, hi, rfl, rfl, hM, ow, hus, pc, kk⟩ := hrel
    by_cases hlt : i < N
    · obtain ⟨x, hx⟩ : ∃ x, ls[i]? = some x := ⟨_, List.getElem?_eq_getElem (by have := HN.out; have := HVL.out; omega)⟩
      obtain ⟨xv, hxv, hxr, hxb⟩ := HP.out.at hx
      obtain ⟨-, hcap, g, rfl, hg, hcell⟩ := OwnV.at HO.out hxv
      have hii : (i : Int) < (N : Int) := by omega
      have hcell2 := (kk.cell (p := ⟨g, i, none⟩) hg (by simp)).trans hcell
      have hxr2 := hxr.keeps kk
      have hxb2 := hxb.keeps kk NoB.nil
      have hls : ls.take (i + 1) = ls.take i ++ [x] := by rw [List.take_add_one, hx]; rfl
      obtain ⟨xa, xn, xc, rfl, hxn, -⟩ := hxr.form
      have HXR := Lib.hid hxr2
      have HXB := Lib.hid hxb2
      by_cases h6 : 6 ≤ xn
      · have hd : Hid (decide (6 ≤ xn) = true) := by simpa [Hid] using h6
        have hlp : longP (ls.take (i + 1)) = longP (ls.take i) ++ [x] := by rw [hls]; exact longP_yes (by omega)
        have HLP := Lib.hid hlp
        have OW := Lib.hid ow
        have PC := Lib.hid pc
        clear hlp hls hxv hx hcell hxr hxb hxn hxr2 hxb2 ow pc
        go_wp2_with (first
          | (go_at_call 104; refine (pieces1_any _ _ _ _ hd.out).mono ?_; rintro e w' ⟨rfl, rfl⟩)
          | (at_builtin; go_loud (refine wpList_app1V rfl _ _ 22 rfl w.heap.size 33 j0 (.slice none 0 0) 24 Tryz.underlying22 hj0 yz0 yz1 yz2 rfl (.slice a2 M c2) M us (.slice xa xn xc) rfl wr.heap.size rfl rfl rfl OW.out (by unfold maxLen; omega) (by omega) kk.size ?_; intro a3 c3 w3 own3 k3)))
        have nb : NoB wr (ownL (.slice a2 M c2)) := NoB.own OW.out (by decide)
        have k3' : Keeps wr w3 (ownL (.slice a2 M c2)) := k3
        have hu3 : Hid ((us ++ [Value.slice xa xn xc]).length = M + 1) := by show _ = _; simp [hus.out]
        have p3 : PcV w3 (us ++ [Value.slice xa xn xc]) (longP (ls.take (i + 1))) := by
          rw [HLP.out]
          exact (PC.out.keeps k3' nb).snoc (HXR.out.keepsB HXB.out k3' nb) (HXB.out.keeps k3' nb)
        have kk3 := keeps_row kk k3 (fun g hg => (World.ownsRow.lt OW.out g hg).1)
        go_roundw
        case rel => exact ⟨i + 1, a3, c3, M + 1, us ++ [Value.slice xa xn xc], by omega, by go_num, rfl, by omega, own3, hu3, p3, kk3⟩
        case measure => simp [intOf]; omega
      · have hd : Hid (decide (6 ≤ xn) = false) := by simpa [Hid] using h6
        have hlp : longP (ls.take (i + 1)) = longP (ls.take i) := by rw [hls]; exact longP_no (by omega)
        rw [← hlp] at pc
        clear hlp hls hxv hx hcell hxr hxb hxn hxr2 hxb2
        go_wp2_with (first
          | (go_at_call 104; refine (pieces1_any _ _ _ _ hd.out).mono ?_; rintro e w' ⟨rfl, rfl⟩))
        go_roundw
        case rel => exact ⟨i + 1, a2, c2, M, us, by omega, by go_num, rfl, by omega, ow, hus, pc, kk⟩
        case measure => simp [intOf]; omega
    · have hii : decide ((i : Int) < (N : Int)) = false := decide_eq_false (by omega)
      have hall : ls.take i = ls := List.take_of_length_le (by have := HN.out; have := HVL.out; omega)
      rw [hall] at pc
      have h3 := hus.out
      subst h3
      go_wp2_with fail
      go_ret
      exact ⟨_, us, rfl, ow, pc, kk⟩

theorem ownB_at {w : World} {B : Nat} {a : Option Addr} {c : Nat} {b : List Int} (h : OwnB w B (.slice a b.length c) b) : ∃ g, (0 < b.length → a = some ⟨g, 0, none⟩) ∧ (0 < b.length → ∃ cs, Blk w g cs 5) ∧ b.length ≤ c := by
  rcases h.2 with ⟨e, h0⟩ | ⟨g, cp, cur, e, hb, hg, hn, hm, hs, ht⟩
  · exact ⟨0, fun h => by omega, fun h => by omega, by omega⟩
  · obtain ⟨rfl, h2, rfl⟩ := Value.slice.inj e
    exact ⟨g, fun _ => rfl, fun _ => ⟨_, hg⟩, hn⟩

set_option maxRecDepth 100000 in
set_option maxHeartbeats 2000000 in
theorem pieces_any (v : Value) (l : List (List Int)) (w : World) (hv : RdL .u8 w v l) (hl : l.length ≤ 1024) (hbl : ∀ b ∈ l, b.length ≤ 131072) :
    Calls Tryz.prog 48 #[v] w (PcEnd w (piecesL l)) := by
  obtain ⟨A0, n0, cp0, rfl, hn0, -⟩ := hv.form
  have HV := Lib.hid hv
  have HBL := Lib.hid hbl
  have HN := Lib.hid hn0
  have hn1 : n0 ≤ 1024 := by omega
  have hap : (allP l).length ≤ l.length * 131073 := allP_len hbl
  have hap2 : (allP l).length ≤ 1000000000 := by omega
  clear hv hbl hn0 hl hap
  go_enter Tryz.func48, Tryz.ntmps48
  go_wp2_with fail
  go_loopw [3, 8] (fun s3 s8 wr => ∃ (i : Nat) (a : Option Addr) (c M : Nat) (vs : List Value), i ≤ n0 ∧ s8 = .int .i64 i ∧ s3 = .slice a M c ∧ M ≤ i * 131073 ∧ wr.ownsRow w.heap.size 33 1 s3 M vs ∧ Hid (vs.length = M) ∧ PcV wr vs (allP (l.take i)) ∧ Keeps w wr []) (fun _ s8 _ => n0 - (intOf s8).toNat)
  case atStart => exact ⟨0, none, 0, 0, [], Nat.zero_le _, rfl, rfl, Nat.le_refl _, World.ownsRow_nil _ _ _ _, rfl, PcV.nil, Keeps.refl _ _⟩
  case round =>
    obtain ⟨i, a, c, M, vs, hi, rfl, rfl, hM, ow, hvs, pc, kk⟩ := hrel
    by_cases hlt : i < n0
    · obtain ⟨b, hb⟩ : ∃ b, l[i]? = some b := ⟨_, List.getElem?_eq_getElem (by have := HN.out; omega)⟩
      obtain ⟨bb, oo, vi, rfl, hbb, hcc, hri, hcap⟩ := (HV.out.keeps kk).at hb
      have hii : (i : Int) < (n0 : Int) := by omega
      have hbl := HBL.out b (List.mem_of_getElem? hb)
      have HCL := Lib.hid (cloneb_any vi b wr hri (by omega))
      have hst : Hid (allP (l.take (i + 1)) = allP (l.take i) ++ chunkL b) := by show _ = _; rw [List.take_add_one, hb]; exact allP_snoc _ _
      obtain ⟨a2, n2, c2, rfl, -⟩ := hri.form
      have OW := Lib.hid ow
      have PC := Lib.hid pc
      have hks := kk.size
      clear hb hri ow pc
      go_wp2_with (first | (go_at_call 81; refine HCL.out.mono ?_; rintro e w1 ⟨v1, rfl, own1, k1⟩; obtain ⟨a1, c1, rfl⟩ := own_form own1) | (go_at_call 102; refine (chunk_any _ _ _ _).mono ?_; rintro e w2 ⟨rfl, rfl⟩))
      have rd1 := own_reads own1
      obtain ⟨g, had, hgb, hnc⟩ := ownB_at own1
      have ks1 := k1.size
      have kz : Keeps w1 ((w1.alloc (.cells #[.slice a1 b.length c1] 33)).alloc (.cells #[.int .i64 32] 3)) [] := ((Keeps.refl w1 []).alloc _).alloc _
      have bs0 : Blk ((w1.alloc (.cells #[.slice a1 b.length c1] 33)).alloc (.cells #[.int .i64 32] 3)) w1.heap.size #[.slice a1 b.length c1] 33 := (Blk.new w1 _ _).alloc _
      have bn0 : Blk ((w1.alloc (.cells #[.slice a1 b.length c1] 33)).alloc (.cells #[.int .i64 32] 3)) (w1.heap.size + 1) #[.int .i64 32] 3 := by
        have := Blk.new (w1.alloc (.cells #[.slice a1 b.length c1] 33)) #[.int .i64 32] 3
        simpa using this
      have hsz : ((w1.alloc (.cells #[.slice a1 b.length c1] 33)).alloc (.cells #[.int .i64 32] 3)).heap.size = w1.heap.size + 2 := by simp
      generalize ((w1.alloc (.cells #[.slice a1 b.length c1] 33)).alloc (.cells #[.int .i64 32] 3)) = Z at *
      have k2 := k1.then kz
      have ow2 := own_keeps OW.out k2
      have hgl : ∀ g, (Value.slice a M c).ownBlock = some g → g < wr.heap.size := fun g hg => (World.ownsRow.lt OW.out g hg).2
      have hvs2 := hvs.out
      subst hvs2
      refine (appseq_any (.slice a vs.length c) vs w.heap.size w1.heap.size (w1.heap.size + 1) g 0 b.length c1 a1 had Z ow2 (by omega) (by omega) (by omega) hnc bs0 bn0 (fun e => by have := hgl _ e; omega) (fun e => by have := hgl _ e; omega)).mono ?_
      rintro e w3 ⟨v3, rfl, own3, k3⟩
      have hlg := fun g hg => (World.ownsRow.lt OW.out g hg).1
      have nb : NoB Z (ownL (.slice a vs.length c) ++ [w1.heap.size, w1.heap.size + 1]) := fun x hx cs hcs => by
        rcases List.mem_append.1 hx with hx | hx
        · exact NoB.own ow2 (by decide) x hx cs hcs
        · simp at hx
          rcases hx with rfl | rfl
          · have h1 := bs0.symm.trans hcs; cases h1
          · have h1 := bn0.symm.trans hcs; cases h1
      have pc3 : PcV w3 (vs ++ upto (chV g 0 b.length) (chN b.length)) (allP (l.take (i + 1))) := by
        have h := (PC.out.keeps k2 NoB.nil).chunks had (rd1.keeps kz) (fun h0 => by obtain ⟨cs, hcs⟩ := hgb h0; exact ⟨cs, hcs.keeps kz (by simp)⟩) (chN b.length) (Nat.le_refl _)
        rw [chunk_all (by unfold chN; omega), ← hst.out] at h
        exact h.keeps k3 nb
      have kk3 : Keeps w w3 [] := (kk.then k2).trans k3 (fun j hj hlt => by
        rcases List.mem_append.1 hj with hj | hj
        · have := hlg j (mem_ownL.1 hj); omega
        · simp at hj; omega)
      obtain ⟨a3, c3, rfl⟩ := own_form own3
      have hlen : (vs ++ upto (chV g 0 b.length) (chN b.length)).length ≤ (i + 1) * 131073 := by
        rw [List.length_append, upto_length]; unfold chN; omega
      generalize (vs ++ upto (chV g 0 b.length) (chN b.length)) = us at *
      obtain ⟨N3, hN3⟩ : ∃ N, us.length = N := ⟨_, rfl⟩
      have OW3 : Hid (w3.ownsRow w.heap.size 33 1 (.slice a3 N3 c3) N3 us) := by have h := own3; unfold OwnV at h; rw [hN3] at h; exact h
      have HN3 := Lib.hid hN3
      rw [hN3] at hlen ⊢
      clear hN3 own3 hsz had hgb rd1 bs0 bn0 own1
      go_wp2_with fail
      go_roundw
      case rel => exact ⟨i + 1, a3, c3, N3, us, by omega, by go_num, rfl, hlen, OW3.out, HN3, pc3, kk3⟩
      case measure => simp [intOf]; omega
    · have hii : decide ((i : Int) < (n0 : Int)) = false := decide_eq_false (by omega)
      have hall : l.take i = l := List.take_of_length_le (by have := HN.out; omega)
      rw [hall] at pc
      have h3 := hvs.out
      subst h3
      have HSI := Lib.hid (sifted_any _ vs (allP l) w.heap.size wr ow pc hap2)
      have OW := Lib.hid ow
      clear ow pc hall
      go_wp2_with fail
      refine HSI.out.mono ?_
      rintro e w2 ⟨v2, us, rfl, ow2, pc2, k2⟩
      obtain ⟨a2, c2, rfl⟩ := own_form ow2
      have ow3 := own_base ow2 kk.size
      have kk2 := kk.then k2
      clear HSI OW ow2
      go_wp2_with fail
      go_ret
      exact ⟨_, us, rfl, ow3, pc2, kk2⟩


end Go.Proofs.YtogengangfohfaaGreat
