/-
  A cursor over bytes: Word.
  Walks over package dict: Own, Equal, HasPrefix, marked, Raw; the reference: Marked, Plain.
  Walks over package dict: first, Raw; the reference's Plain.
  Walks over package dict: must, got, the first functions that full holds.
-/
import Derived.Test.YtcmagccfagijlaaGreatQ7
import Derived.Test.YtcmagccfagijlaaGreatQ1
import Derived.Test.YtcmagccfagijlaaGreatQ8
import Derived.Shelf.Abstract
import Derived.Laws.BitsLemmas
import Derived.Test.YtcmagccfagijlaaGreatQ2
import Derived.Lib.SlBytesConst
import Derived.Laws.EntriesVeiled
namespace Go.Proofs.YtcmagccfagijlaaGreat
section
set_option linter.unusedVariables false
set_option linter.unusedSimpArgs false
set_option linter.unusedSectionVars false
open Go.RowKit Go.Shelf

attribute [local go_sem] Oper.semAt_some

/-- The word that the bytes make, taken from behind. -/
def wordP (ys : List (Nat × Int)) : Int := ys.foldl (fun a y => a * 256 + y.2) 0
def wordL (l : List Int) : Int := wordP (upto (backF l) l.length)
theorem wordP_snoc (ys : List (Nat × Int)) (y : Nat × Int) : wordP (ys ++ [y]) = wordP ys * 256 + y.2 := by simp [wordP]
theorem backF_byte {l : List Int} (h : ∀ x ∈ l, 0 ≤ x ∧ x ≤ 255) (j : Nat) : 0 ≤ (backF l j).2 ∧ (backF l j).2 ≤ 255 := by
  unfold backF
  cases hx : l[l.length - 1 - j]? with
  | none => simp
  | some x => exact h x (List.mem_of_getElem? hx)
theorem wordP_bound {l : List Int} (h : ∀ x ∈ l, 0 ≤ x ∧ x ≤ 255) : ∀ k : Nat, 0 ≤ wordP (upto (backF l) k) ∧ wordP (upto (backF l) k) < 256 ^ k
  | 0 => by simp [upto, wordP]
  | k + 1 => by
    obtain ⟨h1, h2⟩ := wordP_bound h k
    have h3 := backF_byte h k
    rw [upto_succ, wordP_snoc, Int.pow_succ]
    omega

set_option maxRecDepth 100000 in
theorem backward_any (a : Option Addr) (n c : Nat) (w : World) : Calls Tryz.prog 122 #[.slice a n c] w fun e w' => e = .returned (.func (.func 156) #[] #[.pointer (some ⟨w.heap.size, 0, none⟩)]) ∧ w' = w.alloc (.cells #[.slice a n c] 22) := by
  go_enter Tryz.func122, Tryz.ntmps122
  go_wp2_with fail
  go_ret
  exact ⟨rfl, rfl⟩

set_option maxRecDepth 100000 in
set_option maxHeartbeats 4000000 in
theorem word1_any (p h k : Nat) (v : Value) (B : List Int) (w : World) (hc : Cur w p v B k) (hb : Blk w h #[.pointer (some ⟨p, 0, none⟩)] 71) (hhp : h ≠ p) :
    Calls Tryz.prog 121 #[.pointer (some ⟨h, 0, none⟩)] w (CurEnd w p v B (.int .u32 (wordL (bytesX B k 4))) (bytesE B k 4) (bytesK B k 4)) := by
  have HB := Lib.hid (bytes_any p k 4 v B w hc)
  obtain ⟨d0, -⟩ := hb.one
  have hlp := hc.old.1
  have HOLD := Lib.hid hc.old.2
  have hlen : (bytesX B k 4).length ≤ 4 := by
    unfold bytesX
    split
    · simp; omega
    · simp
  have hby : ∀ x ∈ bytesX B k 4, 0 ≤ x ∧ x ≤ 255 := fun x hx => hc.byte x (by
    unfold bytesX at hx
    split at hx
    · exact List.mem_of_mem_drop (List.mem_of_mem_take hx)
    · cases hx)
  have HWB := Lib.hid (wordP_bound hby)
  have HBF := Lib.hid (backF_byte hby)
  clear hc hb hby
  generalize bytesX B k 4 = L at *
  generalize bytesE B k 4 = E at *
  generalize bytesK B k 4 = K at *
  refine calls_of_marks Tryz.func121 rfl ?_
  simp only [Tryz.ntmps121, List.size_toArray, List.length_cons, List.length_nil, Nat.reduceAdd, Nat.reduceSub, Array.replicate_succ, Array.replicate_zero, List.push_toArray, List.append_toArray, List.nil_append, List.cons_append]
  go_wp2_with (first
    | (go_at_call 96; go_loud (refine HB.out.mono ?_; rintro e w1 ⟨r1, rfl, rd1, fr1, cur1, k1⟩; obtain ⟨a1, n1, c1, rfl, -, -⟩ := rd1.form))
    | (go_at_call 122; go_loud (refine (backward_any _ _ _ _).mono ?_; rintro e w2 ⟨rfl, rfl⟩)))
  have hs1 := k1.size
  have hbk : ∀ j ∈ blocksOf (.slice a1 n1 c1), w.heap.size ≤ j ∧ j < w1.heap.size := fun j hj => by
    cases a1 with
    | none => simp [blocksOf] at hj
    | some a =>
      by_cases h0 : 0 < n1
      · simp [blocksOf, h0] at hj
        obtain ⟨b, o, he, hb, -⟩ := rd1.addr h0
        cases he
        subst hj
        exact ⟨fr1 _ _ _ rfl, hb⟩
      · simp [blocksOf, h0] at hj
  have kz : Keeps w1 ((w1.alloc (.cells #[.int .u32 0] 24)).alloc (.cells #[.slice a1 n1 c1] 22)) [] := ((Keeps.refl w1 []).alloc _).alloc _
  have bn0 := (Blk.new w1 #[.int .u32 0] 24).alloc (.cells #[.slice a1 n1 c1] 22)
  have bs0 := Blk.new (w1.alloc (.cells #[.int .u32 0] 24)) #[.slice a1 n1 c1] 22
  simp only [World.size_alloc] at bs0
  have hsz : ((w1.alloc (.cells #[.int .u32 0] 24)).alloc (.cells #[.slice a1 n1 c1] 22)).heap.size = w1.heap.size + 2 := by simp
  have rdz := rd1.keeps kz
  have HBK := Lib.hid hbk
  clear rd1
  generalize ((w1.alloc (.cells #[.int .u32 0] 24)).alloc (.cells #[.slice a1 n1 c1] 22)) = Z at *
  obtain ⟨Y, hY⟩ : ∃ Y, Y = blocksOf (.slice a1 n1 c1) := ⟨_, rfl⟩
  have hseq := backY (w1.heap.size + 1) (.slice a1 n1 c1) L Z bs0 rdz (by omega)
  rw [← hY] at hseq hbk HBK
  have kY : Keeps w1 Z Y := kz.mono (by simp)
  clear hbk hY rdz kz bs0
  refine range_PY (gf := 156) (lb := #[.pointer (some ⟨w1.heap.size + 1, 0, none⟩)]) rfl (enters_of Tryz.func156 (by kernel_rfl) rfl)
    hseq ?hX (fun _ => rfl) 0
    (fun pre W => ∃ j : Nat, pre = upto (backF L) j ∧ Blk W w1.heap.size #[.int .u32 (wordP pre)] 24 ∧ Keeps w1 W Y)
    (fun pre W => False)
    (fun W => Blk W w1.heap.size #[.int .u32 (wordL L)] 24 ∧ Keeps w1 W Y)
    ?hI ?hIx ?h0 ?hround ?hdone ?hstop ?hex ?hrest
  case hX =>
    intro j hj
    rcases List.mem_append.1 hj with hj | hj
    · simp at hj; omega
    · have := HBK.out j hj; omega
  case hI =>
    rintro s A B' ⟨j, hj, bn, ka⟩ hab
    rw [hsz] at hab
    refine ⟨j, hj, bn.keeps hab ?_, ka.trans hab (fun j hj hlt => ?_)⟩
    · intro hm
      simp only [List.mem_append, List.mem_cons, List.not_mem_nil, or_false] at hm
      rcases hm with (hm | hm) | hm | hm
      · omega
      · have := HBK.out _ hm; omega
      · omega
      · omega
    · simp only [List.mem_append, List.mem_cons, List.not_mem_nil, or_false] at hj
      rcases hj with (hj | hj) | hj | hj
      · omega
      · exact hj
      · omega
      · omega
  case hIx => exact fun s A B' h _ => h
  case hstop => exact fun pre X' _ h => h.elim
  case hex => exact fun a' W h => by simpa [Exit.inBlock, Exit.noGoto] using h
  case h0 => exact ⟨0, rfl, bn0, kY⟩
  case hdone =>
    rintro xs W hS ⟨j, hj, bn, ka⟩
    rw [hS] at bn
    exact ⟨bn, ka⟩
  case hround =>
    rintro l pre x W hl hlt hD hF ⟨j, rfl, bn, ka⟩ hsp
    obtain ⟨hjl, rfl⟩ := upto_next hsp
    subst hl
    rw [hsz] at hlt hD
    obtain ⟨q1, q2⟩ := HWB.out j
    obtain ⟨q3, q4⟩ := HBF.out j
    have hsn := wordP_snoc (upto (backF L) j) (backF L j)
    have h3 : (256 : Int) ^ j ≤ 16777216 := by
      have : j = 0 ∨ j = 1 ∨ j = 2 ∨ j = 3 := by omega
      rcases this with h | h | h | h <;> rw [h] <;> decide
    have q2' : wordP (upto (backF L) j) < 16777216 := by omega
    have HU := Lib.hid (upto_succ (backF L) j)
    generalize wordP (upto (backF L) j) = A at *
    clear q2 h3 HWB HBF hsp
    gi_wp2
    refine ⟨SameAt.refl _ _, fun W2 hT => ?_⟩
    rw [hsz] at hT
    have bn2 := hT.blk bn
    have ka2 : Keeps w1 W2 Y := ka.trans hT.keeps (fun j hj hlt => by simp at hj; omega)
    obtain ⟨cn, fn⟩ := bn2.one
    have hm1 : A * 256 % 4294967296 = A * 256 := by omega
    have hm2 : IntKind.u32.wrap (A * 256) = A * 256 := by rw [IntKind.wrap_u32]; omega
    have hm3 : (backF L j).2 % 4294967296 = (backF L j).2 := by omega
    have hor : bits BinOp.or IntKind.u32 (A * 256) (backF L j).2 = A * 256 + (backF L j).2 := bits_join .u32 32 (by decide) (fun n h0 h1 => by rw [IntKind.wrap_u32]; omega) 8 _ _ (by omega) (by omega) (by omega) q3 (by omega) (by omega)
    have HSN := Lib.hid hsn
    have BN2 := Lib.hid bn2
    clear hsn bn2 bn hT
    gi_wp2
    try rw [hm3]
    try rw [hor]
    rw [← HSN.out]
    have NB := BN2.out.set 0 (.int .u32 (wordP (upto (backF L) j ++ [backF L j])))
    refine ⟨fun k' hk' => Below.heap_setCell W2 _ _ k' ?_, j + 1, HU.out.symm, NB, ka2.setCell (.inl (Nat.le_refl _)) _⟩
    dsimp only
    simp only [List.mem_append, List.mem_cons, List.not_mem_nil, or_false, hsz] at hk'
    rcases hk' with (hk' | hk') | hk' | hk'
    · omega
    · have := HBK.out _ hk'; omega
    · omega
    · omega
  case hrest =>
    rintro D X' hD hK ⟨bn, ka⟩
    obtain ⟨cn, -⟩ := bn.one
    simp only [Exit.inBlock, Exit.then]
    have HW := Lib.hid (rfl : wordL L = wordL L)
    generalize wordL L = WL at *
    go_wp2_with fail
    refine ⟨by simp, .inl ⟨_, _, rfl, run_takeDeferred hK, ?_⟩⟩
    rw [hsz] at hD
    have kp : Keeps X' (X'.putObj D (.deferred none)) [D] := keeps_put
    have kq : Keeps w1 (X'.putObj D (.deferred none)) Y := ka.trans kp (fun j hj hlt => by simp at hj; omega)
    refine ⟨.tuple #[.int .u32 WL, .int .i64 E], by simp [results, Tryz.results121], rfl, ?_, ?_⟩
    · refine cur1.keepsS kq (fun hm => by have := HBK.out _ hm; omega) (fun ad n' c' he h0 hm => ?_)
      have := HOLD.out ad n' c' he h0
      have := HBK.out _ hm
      omega
    · exact k1.trans kq (fun j hj hlt => by have := HBK.out _ hj; omega)

theorem wordE_iff (B : List Int) (k : Nat) : (if bytesE B k 4 = 0 then wordL (bytesX B k 4) else 0) = wordL (bytesX B k 4) := by
  by_cases h : bytesE B k 4 = 0
  · rw [if_pos h]
  · rw [if_neg h, bytesX, if_neg h]; rfl

set_option maxRecDepth 100000 in
theorem word_any (p k : Nat) (v : Value) (B : List Int) (w : World) (hc : Cur w p v B k) :
    Calls Tryz.prog 84 #[.pointer (some ⟨p, 0, none⟩)] w (CurEnd w p v B (.int .u32 (wordL (bytesX B k 4))) (bytesE B k 4) (bytesK B k 4)) := by
  have hp := hc.old.1
  have k0 : Keeps w (w.alloc (.cells #[.pointer (some ⟨p, 0, none⟩)] 71)) [] := (Keeps.refl w []).alloc _
  have b0 := Blk.new w #[.pointer (some ⟨p, 0, none⟩)] 71
  have h := readU32_any p k (bytesK B k 4) v B (w.alloc (.cells #[.pointer (some ⟨p, 0, none⟩)] 71)) #[.pointer (some ⟨w.heap.size, 0, none⟩)] (wordL (bytesX B k 4)) (bytesE B k 4) (hc.keeps k0)
    (fun w1 k1 => word1_any p w.heap.size k v B w1 ((hc.keeps k0).keeps k1) (b0.keeps k1 (by simp)) (by omega))
  rw [wordE_iff, (bytesE_iff B k 4).2] at h
  have H := Lib.hid h
  clear h hc
  generalize wordL (bytesX B k 4) = X at *
  generalize bytesE B k 4 = E at *
  generalize bytesK B k 4 = K' at *
  go_enter Tryz.func84, Tryz.ntmps84
  go_wp2_with (refine H.out.mono ?_; rintro e w1 ⟨rfl, cur1, k1⟩)
  exact bodyPost_ret (v := .tuple #[.int .u32 X, .int .i64 E]) (by simp [results, Tryz.results84]) rfl ⟨rfl, cur1, (k0.mono (by simp)).trans k1 (fun j hj _ => hj)⟩
end

section
set_option linter.unusedVariables false
set_option linter.unusedSimpArgs false
set_option linter.unusedSectionVars false
open Go.RowKit

theorem strOfNums_inj {a b : List Int} (ha : ∀ x ∈ a, 0 ≤ x ∧ x ≤ 255) (hb : ∀ x ∈ b, 0 ≤ x ∧ x ≤ 255) (h : strOfNums a = strOfNums b) : a = b := by
  have h2 : a.map (fun n => UInt8.ofNat n.toNat) = b.map (fun n => UInt8.ofNat n.toNat) := by
    have := congrArg (fun s => s.data.toList) h
    simpa [strOfNums] using this
  have hl : a.length = b.length := by simpa using congrArg List.length h2
  apply List.ext_getElem hl
  intro i h3 h4
  have h5 := congrArg (fun l => l[i]?) h2
  simp only [List.getElem?_map, List.getElem?_eq_getElem h3, List.getElem?_eq_getElem h4, Option.map_some, Option.some.injEq] at h5
  have e1 := ha a[i] (List.getElem_mem h3)
  have e2 := hb b[i] (List.getElem_mem h4)
  have h6 := congrArg UInt8.toNat h5
  simp at h6
  omega

theorem str_beq {a b : List Int} (ha : ∀ x ∈ a, 0 ≤ x ∧ x ≤ 255) (hb : ∀ x ∈ b, 0 ≤ x ∧ x ≤ 255) : ((strOfNums a).toList == (strOfNums b).toList) = decide (a = b) := by
  by_cases h : a = b
  · subst h; simp
  · rw [decide_eq_false h, beq_eq_false_iff_ne]
    intro e
    rw [ByteArray.toList_eq, ByteArray.toList_eq] at e
    exact h (strOfNums_inj ha hb (ByteArray.ext (Array.toList_inj.1 e)))

theorem slice_head {w0 : World} {v : Value} {B : List Int} (h : RdI .u8 w0 v B) {j : Nat} (hj : j ≤ B.length) :
    ∃ r, (∀ w, (Instr.slice 22 v none (some (.int .i64 (j : Int))) none).run Tryz.prog w = .ok r w) ∧ RdI .u8 w0 r (B.take j) := by
  obtain ⟨i0, hi, hz0, hz1, hz2⟩ := info_parts Tryz.infoByte
  obtain ⟨ad, n, c, rfl, hn, hh⟩ := h.form
  have hcap := h.cap
  have run : ∀ w, (Instr.slice 22 (.slice ad n c) none (some (.int .i64 (j : Int))) none).run Tryz.prog w = .ok (.slice ad j c) w := by
    intro w
    have a2 : j ≤ c := by omega
    cases ad with
    | none =>
      obtain ⟨rfl, rfl, rfl⟩ := h.nilcap
      obtain rfl : j = 0 := by simp at hj; omega
      simp [Instr.slice, Instr.sliceBounds, Instr.sliceBound, asIntOf, run_underlying Tryz.underlying22, go_sem, sizeOf, typeInfo, hi, hz1]
    | some a =>
      by_cases hc : c = 0
      · subst hc
        obtain rfl : j = 0 := by omega
        simp [Instr.slice, Instr.sliceBounds, Instr.sliceBound, asIntOf, run_underlying Tryz.underlying22, go_sem, sizeOf, typeInfo, hi, hz1]
      · simp [Instr.slice, Instr.sliceBounds, Instr.sliceBound, asIntOf, run_underlying Tryz.underlying22, go_sem, sizeOf, typeInfo, hi, hz1, a2, hc, Addr.add]
  refine ⟨_, run, ?_⟩
  by_cases h0 : j = 0
  · subst h0
    rw [List.take_zero]
    cases ad with
    | none =>
      obtain ⟨rfl, rfl, rfl⟩ := h.nilcap
      exact .nil
    | some a => exact .zero _ _
  · obtain ⟨b, o, rfl, -, -⟩ := h.addr (by omega)
    have := h.piece (p := 0) (q := j) (by omega) c (by omega)
    simpa using this

/-- append([]byte(nil), x...). -/
theorem r_own (v : Value) (l : List Int) (w : World) (hv : RdI .u8 w v l) (hn : l.length ≤ 1000000) :
    Calls Tryz.prog 13 #[v] w fun e w' => ∃ v', e = .returned v' ∧ OwnB w' w.heap.size v' l ∧ Keeps w w' [] := by
  obtain ⟨i0, hi, hz0, hz1, hz2⟩ := info_parts Tryz.infoByte
  have HV := Lib.hid hv
  obtain ⟨ad, n, c, rfl, -, -⟩ := hv.form
  have HO := Lib.hid (World.ownsRow_nil w w.heap.size 5 1)
  clear hv
  go_enter Tryz.func13, Tryz.ntmps13
  go_wp2_with (at_builtin; go_loud (refine wpList_appendI rfl _ _ 22 rfl w.heap.size 5 i0 (.int .u8 0) 1 Tryz.underlying22 hi hz0 hz1 hz2 rfl (.slice none 0 0) 0 [] rfl HO.out _ rfl .u8 l HV.out (by unfold maxLen; omega) (by omega) (Nat.le_refl _) ?_; intro v3 w3 own3 g3 _; obtain ⟨a3, c3, rfl⟩ := own_form own3))
  go_ret
  refine ⟨_, rfl, ?_, Keeps.of_grown (S := []) g3 (fun k hk => by simp [Value.ownBlock] at hk)⟩
  rw [Nat.zero_add, List.nil_append] at own3
  exact own3

theorem bequal_any (v u : Value) (a b : List Int) (w : World) (ha : RdI .u8 w v a) (hb : RdI .u8 w u b) (ha' : ∀ x ∈ a, 0 ≤ x ∧ x ≤ 255) (hb' : ∀ x ∈ b, 0 ≤ x ∧ x ≤ 255) :
    Calls Tryz.prog 60 #[v, u] w fun e w' => e = .returned (.bool (decide (a = b))) ∧ w' = w := by
  have s1 := str_of (P := Tryz.prog) ha Tryz.underlying22 Tryz.underlying5 Tryz.underlying9
  have s2 := str_of (P := Tryz.prog) hb Tryz.underlying22 Tryz.underlying5 Tryz.underlying9
  have hab := str_beq ha' hb'
  generalize decide (a = b) = R at *
  clear ha hb ha' hb'
  generalize strOfNums a = A at *
  generalize strOfNums b = B at *
  go_enter Tryz.func60, Tryz.ntmps60
  go_wp2_with fail
  go_ret
  exact ⟨rfl, rfl⟩

theorem hasPrefix_any (v u : Value) (a b : List Int) (w : World) (ha : RdI .u8 w v a) (hb : RdI .u8 w u b) (ha' : ∀ x ∈ a, 0 ≤ x ∧ x ≤ 255) (hb' : ∀ x ∈ b, 0 ≤ x ∧ x ≤ 255) :
    Calls Tryz.prog 68 #[v, u] w fun e w' => e = .returned (.bool (decide (a.take b.length = b))) ∧ w' = w := by
  obtain ⟨A0, n, c, rfl, hn, -⟩ := ha.form
  obtain ⟨B0, m, d, rfl, hm, -⟩ := hb.form
  by_cases hl : m ≤ n
  · have hl' : (m : Int) ≤ (n : Int) := by omega
    obtain ⟨r, hr, rr⟩ := slice_head ha (j := m) (by omega)
    have HE := Lib.hid (bequal_any r _ _ b w rr hb (fun x hx => ha' x (List.mem_of_mem_take hx)) hb')
    rw [← hm]
    generalize decide (a.take m = b) = R at *
    clear ha hb rr hn hm
    go_enter Tryz.func68, Tryz.ntmps68
    go_wp2_with (refine HE.out.mono ?_; rintro e w1 ⟨rfl, rfl⟩)
    go_ret
    exact ⟨rfl, rfl⟩
  · have hl' : decide ((m : Int) ≤ (n : Int)) = false := decide_eq_false (by omega)
    have hf : decide (a.take b.length = b) = false := decide_eq_false (fun h => by have := congrArg List.length h; simp at this; omega)
    rw [hf]
    clear ha hb hn hm hf
    go_enter Tryz.func68, Tryz.ntmps68
    go_wp2_with fail
    go_ret
    exact ⟨rfl, rfl⟩

/-- Do the bytes start with the magic number? -/
def markB (l : List Int) : Bool := decide (l.take 4 = [80, 77, 84, 68])

theorem RdI.lit {k : IntKind} (w : World) {l : List Int} {T : TypeId} {cs : Array Value} (fr : Nat × Nat) (hl : cs.toList = l.map (.int k)) {n cp : Nat} (hn : n = l.length) (hc : n ≤ cp) : RdI k (w.alloc (.cells cs T fr)) (.slice (some ⟨w.heap.size, 0, none⟩) n cp) l := by
  refine ⟨_, _, _, rfl, hn, (fun h => by cases h), fun h0 => ⟨hc, w.heap.size, 0, rfl, by simp, fun i x hx => ?_⟩⟩
  rw [Nat.zero_add, cell_of_row (w.alloc (.cells cs T fr)) w.heap.size i cs T fr (heap_alloc_new w _), ← Array.getElem?_toList, hl, List.getElem?_map, hx]
  rfl

set_option maxRecDepth 100000 in
theorem marked_any (v : Value) (l : List Int) (w : World) (hv : RdI .u8 w v l) (hl : ∀ x ∈ l, 0 ≤ x ∧ x ≤ 255) :
    Calls Tryz.prog 31 #[v] w fun e w' => e = .returned (.bool (markB l)) ∧ Keeps w w' [] := by
  have HP : Hid (∀ w1 u, Keeps w w1 [] → RdI .u8 w1 u [80, 77, 84, 68] → Calls Tryz.prog 68 #[v, u] w1 fun e w' => e = .returned (.bool (markB l)) ∧ w' = w1) := fun w1 u k h => hasPrefix_any v u l [80, 77, 84, 68] w1 (hv.keeps k) h hl (by decide)
  obtain ⟨A0, n, c, rfl, -, -⟩ := hv.form
  have kc := fun (w : World) (C : Array Value) (n c : Nat) => Lib.run_convert_bytes_const (P := Tryz.prog) w 22 5 C n c Tryz.underlying22 Tryz.underlying5
  clear hv hl
  generalize markB l = R at *
  go_enter Tryz.func31, Tryz.ntmps31
  go_wp2_with (go_at_call 68; go_loud (refine (HP.out _ _ ((Keeps.refl _ _).alloc _) (RdI.lit _ _ (l := [80, 77, 84, 68]) rfl rfl (Nat.le_refl _))).mono ?_; rintro e w1 ⟨rfl, rfl⟩))
  go_ret
  exact ⟨rfl, (Keeps.refl _ _).alloc _⟩

set_option maxRecDepth 100000 in
theorem r_marked (v : Value) (l : List Int) (w : World) (hv : RdI .u8 w v l) (hl : ∀ x ∈ l, 0 ≤ x ∧ x ≤ 255) :
    Calls Tryz.prog 14 #[v] w fun e w' => e = .returned (.bool (markB l)) ∧ w' = w := by
  obtain ⟨A0, n, c, rfl, hn, -⟩ := hv.form
  by_cases h4 : 4 ≤ n
  · have h4' : (4 : Int) ≤ (n : Int) := by omega
    obtain ⟨r, hr0, rr⟩ := slice_head hv (j := 4) (by omega)
    have hr : ∀ w, (Instr.slice 22 (.slice A0 n c) none (some (.int .i64 4)) none).run Tryz.prog w = .ok r w := hr0
    clear hr0
    have s1 := str_of (P := Tryz.prog) rr Tryz.underlying22 Tryz.underlying5 Tryz.underlying9
    have hs := str_beq (a := l.take 4) (b := [80, 77, 84, 68]) (fun x hx => hl x (List.mem_of_mem_take hx)) (by decide)
    rw [show (strOfNums [80, 77, 84, 68]).toList = [80, 77, 84, 68] from by rw [ByteArray.toList_eq]; kernel_rfl] at hs
    have hR : Hid (markB l = decide (l.take 4 = [80, 77, 84, 68])) := rfl
    generalize decide (l.take 4 = [80, 77, 84, 68]) = R at *
    generalize markB l = R' at *
    clear hv rr hn hl
    generalize strOfNums (l.take 4) = A at *
    go_enter Tryz.func14, Tryz.ntmps14
    go_wp2_with fail
    go_ret
    exact ⟨by rw [hR.out]; rfl, rfl⟩
  · have h4' : decide ((4 : Int) ≤ (n : Int)) = false := decide_eq_false (by omega)
    have hf : markB l = false := decide_eq_false (fun h => by have := congrArg List.length h; simp at this; omega)
    rw [hf]
    clear hv hn hf hl
    go_enter Tryz.func14, Tryz.ntmps14
    go_wp2_with fail
    go_ret
    exact ⟨rfl, rfl⟩
end

section
set_option linter.unusedVariables false
set_option linter.unusedSimpArgs false
set_option linter.unusedSectionVars false
open Go.RowKit

abbrev nilV : Value := .slice none 0 0
abbrev repV (a b c : Int) : Value := .agg #[.int .i64 a, .int .i64 b, .int .i64 c]
/-- The cells of a dictionary. -/
abbrev dictC (id : Int) (t : Value) (g1 : Int) (n1 : Value) (g2 : Int) (n2 : Value) (g3 : Int) (n3 : Value) (a b c : Int) (x : Value) : Array Value :=
  #[.int .u32 id, t, .int .i64 g1, n1, .int .i64 g2, n2, .int .i64 g3, n3, .int .i64 a, .int .i64 b, .int .i64 c, x]
abbrev rawC (x : Value) : Array Value := dictC 0 nilV 0 nilV 0 nilV 0 nilV 1 4 8 x
abbrev zeroC : Array Value := dictC 0 nilV 0 nilV 0 nilV 0 nilV 0 0 0 nilV

theorem dict_size : (Tryz.prog.info? 32).map (·.size) = some 12 := by kernel_rfl
theorem load_dict {w : World} {b : Nat} {cs : Array Value} (h : Blk w b cs 32) (hs : cs.size = 12) : (loadVar 32 ⟨b, 0, none⟩).run Tryz.prog w = .ok (.agg cs) w :=
  load_blk h Tryz.underlying32 rfl (by rw [dict_size, hs])

set_option maxRecDepth 100000 in
theorem first_any (w : World) : Calls Tryz.prog 32 #[] w fun e w' => e = .returned (repV 1 4 8) ∧ Keeps w w' [] := by
  go_enter Tryz.func32, Tryz.ntmps32
  go_wp2_with fail
  refine bodyPost_ret (v := repV 1 4 8) (by simp only [results, Tryz.results32]; go_simp) rfl ⟨rfl, (Keeps.refl _ _).alloc _⟩

set_option maxRecDepth 100000 in
set_option maxHeartbeats 4000000 in
theorem raw_yes (v : Value) (l : List Int) (w : World) (hv : RdI .u8 w v l) (hl : ∀ x ∈ l, 0 ≤ x ∧ x ≤ 255) (hn : l.length ≤ 1000000) (hm : markB l = false) :
    Calls Tryz.prog 12 #[v] w fun e w' => ∃ x, e = .returned (.tuple #[.agg (rawC x), .int .i64 0]) ∧ RdI .u8 w' x l ∧ Fresh w.heap.size x ∧ Keeps w w' [] := by
  have HM := Lib.hid (fun w1 (k : Keeps w w1 []) => marked_any v l w1 (hv.keeps k) hl)
  rw [hm] at HM
  have HC := Lib.hid (fun w1 (k : Keeps w w1 []) => cloneb_any v l w1 (hv.keeps k) hn)
  have hbig : decide ((134217728 : Int) < (l.length : Int)) = false := decide_eq_false (by omega)
  obtain ⟨A0, n, c, rfl, rfl, -⟩ := hv.form
  clear hv hl hm hn
  generalize hN : l.length = N at *
  have HN := Lib.hid hN
  clear hN
  go_enter Tryz.func12, Tryz.ntmps12
  go_wp2_with (first
    | (go_at_call 31; go_loud (refine (HM.out _ ((Keeps.refl _ _).alloc _)).mono ?_; rintro e w1 ⟨rfl, k1⟩; have hb := (Blk.new w zeroC 32).keeps k1 (by simp); have kw1 := ((Keeps.refl w []).alloc _).then k1))
    | (go_at_call 32; go_loud (refine (first_any _).mono ?_; rintro e w2 ⟨rfl, k2⟩; have hb2 := hb.keeps k2 (by simp); have kw2 := kw1.then k2))
    | (go_at_call 33; go_loud (refine (HC.out _ kw2).mono ?_; rintro e w3 ⟨v3, rfl, own3, k3⟩; rw [OwnB, HN.out] at own3; obtain ⟨a3, c3, rfl⟩ := own_form own3; have hb3 := hb2.keeps k3 (by simp); have kw3 := kw2.then k3))
    | (refine wpList_store_blk rfl 32 _ _ rfl w.heap.size (rawC (.slice a3 N c3)) rfl rfl _ _ hb3 dict_size rfl (by simp [Value.oneCell']) ?_; intro W4 hb4 k4))
  have hs := kw2.size
  have hlb := hb2.lt
  have own4 : OwnB W4 w2.heap.size (.slice a3 l.length c3) l := own_moved (by rw [OwnB, HN.out]; exact own3) (fun g hg => k4.block g (by rw [HN.out] at hg; exact (own3.lt g hg).2) (by rw [HN.out] at hg; have := (own3.lt g hg).1; simp; omega))
  have R4 := own_reads own4
  have F4 := own_freshB own4
  rw [HN.out] at R4 F4
  refine bodyPost_ret (v := .tuple #[.agg (rawC (.slice a3 N c3)), .int .i64 0]) (res_cell_tmp rfl rfl rfl (load_dict hb4 rfl)) rfl ⟨_, rfl, R4, F4.mono hs, kw3.trans k4 (fun j hj hlt => by simp at hj; omega)⟩

set_option maxRecDepth 100000 in
set_option maxHeartbeats 4000000 in
theorem r_plain (v : Value) (l : List Int) (w : World) (hv : RdI .u8 w v l) (hn : l.length ≤ 1000000) :
    Calls Tryz.prog 16 #[v] w fun e w' => ∃ x, e = .returned (.agg (rawC x)) ∧ RdI .u8 w' x l ∧ Fresh w.heap.size x ∧ Keeps w w' [] := by
  obtain ⟨i0, hi, hz0, hz1, hz2⟩ := info_parts Tryz.infoByte
  have HV := Lib.hid (hv.keeps ((Keeps.refl w []).alloc (.cells zeroC 32)))
  have hb := Blk.new w zeroC 32
  obtain ⟨A0, n, c, rfl, rfl, -⟩ := hv.form
  have HO := Lib.hid (World.ownsRow_nil (w.alloc (.cells zeroC 32)) (w.heap.size + 1) 5 1)
  clear hv
  generalize hN : l.length = N at *
  have HN := Lib.hid hN
  clear hN
  go_enter Tryz.func16, Tryz.ntmps16
  go_wp2_with (first
    | (at_builtin; go_loud (refine wpList_appendI rfl _ _ 22 rfl (w.heap.size + 1) 5 i0 (.int .u8 0) 1 Tryz.underlying22 hi hz0 hz1 hz2 rfl (.slice none 0 0) 0 [] rfl HO.out _ rfl .u8 l HV.out (by rw [HN.out]; unfold maxLen; omega) (by rw [HN.out]; omega) (by simp) ?_; intro v3 w3 own3 g3 _; rw [HN.out, Nat.zero_add, List.nil_append] at own3; obtain ⟨a3, c3, rfl⟩ := own_form own3; have k3 := Keeps.of_grown (S := []) g3 (fun k hk => by simp [Value.ownBlock] at hk); have hb3 := hb.keeps k3 (by simp)))
    | (refine wpList_store_blk rfl 32 _ _ rfl w.heap.size (rawC (.slice a3 N c3)) rfl rfl _ _ hb3 dict_size rfl (by simp [Value.oneCell']) ?_; intro W4 hb4 k4))
  simp only [Act.put]
  have hs1 := k3.size
  simp only [World.size_alloc] at hs1
  have own4 : OwnB W4 (w.heap.size + 1) (.slice a3 l.length c3) l := own_moved (by rw [OwnB, HN.out]; exact own3) (fun g hg => k4.block g (by rw [HN.out] at hg; exact (own3.lt g hg).2) (by rw [HN.out] at hg; have := (own3.lt g hg).1; simp; omega))
  have R4 := own_reads own4
  have F4 := own_freshB own4
  rw [HN.out] at R4 F4
  refine bodyPost_ret (v := .agg (rawC (.slice a3 N c3))) (res_cell rfl rfl (load_dict hb4 rfl)) rfl ⟨_, rfl, R4, F4.mono (by omega), ((((Keeps.refl w []).alloc _).then k3).trans k4 (fun j hj hlt => by simp at hj; omega))⟩
end

section
set_option linter.unusedVariables false
set_option linter.unusedSimpArgs false
set_option linter.unusedSectionVars false
open Go.RowKit

theorem dmust_yes {b : Bool} (h : b = true) (n : Int) (w : World) : Calls Tryz.prog 62 #[.bool b, .int .i64 n] w fun e w' => e = .returned (.tuple #[]) ∧ w = w' := by
  subst h
  go_enter Tryz.func62, Tryz.ntmps62
  go_wp2
  go_end0
  exact ⟨rfl, rfl⟩
theorem dmust_no {b : Bool} (h : b = false) (n : Int) (w : World) : Calls Tryz.prog 62 #[.bool b, .int .i64 n] w fun e w' => e = .panicked [raisedBy n false] ∧ w = w' := by
  subst h
  go_enter Tryz.func62, Tryz.ntmps62
  go_wp2
  exact ⟨rfl, rfl, rfl⟩
theorem got32_yes (x : Int) (w : World) : Calls Tryz.prog 83 #[.int .u32 x, .int .i64 0] w fun e w' => e = .returned (.int .u32 x) ∧ w' = w := by
  go_enter Tryz.func83, Tryz.ntmps83
  go_wp2_with (go_at_call 62; refine (dmust_yes (by simp) 0 _).mono ?_; rintro e w1 ⟨rfl, rfl⟩)
  go_ret
  exact ⟨rfl, rfl⟩
theorem got32_no (x n : Int) (hn : n ≠ 0) (w : World) : Calls Tryz.prog 83 #[.int .u32 x, .int .i64 n] w fun e w' => e = .panicked [raisedBy n false] ∧ w' = w := by
  have hn' : (n == 0) = false := by simpa using hn
  go_enter Tryz.func83, Tryz.ntmps83
  go_wp2_with (go_at_call 62; refine (dmust_no (by simp [hn']) n _).mono ?_; rintro e w1 ⟨rfl, rfl⟩)
  exact ⟨rfl, rfl, rfl⟩

set_option maxRecDepth 100000 in
/-- The number of a dictionary that ends too early. -/
theorem full2_no (p k bc bd : Nat) (v : Value) (B : List Int) (w : World) (hc : Cur w p v B k) (hb : Blk w bc #[.pointer (some ⟨p, 0, none⟩)] 71) (hE : bytesE B k 4 ≠ 0) :
    Calls Tryz.prog 82 #[.pointer (some ⟨bc, 0, none⟩), .pointer (some ⟨bd, 0, none⟩)] w fun e w' => e = .panicked [raisedBy (bytesE B k 4) false] ∧ Keeps w w' [p] := by
  have H := Lib.hid (word_any p k v B w hc)
  obtain ⟨d0, -⟩ := hb.one
  clear hc hb
  generalize wordL (bytesX B k 4) = X at *
  generalize bytesE B k 4 = E at *
  generalize bytesK B k 4 = K' at *
  go_enter Tryz.func82, Tryz.ntmps82
  go_wp2_with (first
    | (go_at_call 84; go_loud (refine H.out.mono ?_; rintro e w1 ⟨rfl, -, k1⟩))
    | (go_at_call 83; go_loud (refine (got32_no _ _ hE _).mono ?_; rintro e w2 ⟨rfl, rfl⟩)))
  exact ⟨rfl, rfl, k1⟩

set_option maxRecDepth 100000 in
set_option maxHeartbeats 1000000 in
/-- The number of a dictionary is laid. -/
theorem full2_yes (p k bc bd : Nat) (v : Value) (B : List Int) (w : World) (id : Int) (t : Value) (g1 : Int) (n1 : Value) (g2 : Int) (n2 : Value) (g3 : Int) (n3 : Value) (a b c : Int) (x : Value) (hc : Cur w p v B k) (hb : Blk w bc #[.pointer (some ⟨p, 0, none⟩)] 71)
    (hd : Blk w bd (dictC id t g1 n1 g2 n2 g3 n3 a b c x) 32) (hpd : p ≠ bd) (hE : bytesE B k 4 = 0) :
    Calls Tryz.prog 82 #[.pointer (some ⟨bc, 0, none⟩), .pointer (some ⟨bd, 0, none⟩)] w fun e w' => e = .returned (.tuple #[]) ∧ Blk w' bd (dictC (wordL (bytesX B k 4)) t g1 n1 g2 n2 g3 n3 a b c x) 32 ∧ Keeps w w' [p, bd] := by
  have H := Lib.hid (word_any p k v B w hc)
  rw [hE] at H
  obtain ⟨d0, -⟩ := hb.one
  clear hc hb hE
  generalize wordL (bytesX B k 4) = X at *
  generalize bytesK B k 4 = K' at *
  go_enter Tryz.func82, Tryz.ntmps82
  go_wp2_with (first
    | (go_at_call 84; go_loud (refine H.out.mono ?_; rintro e w1 ⟨rfl, -, k1⟩; have hd1 := hd.keeps k1 (by simpa using hpd.symm); have c0 : w1.cell? ⟨bd, 0, none⟩ = some (.int .u32 id) := hd1.cell 0; have f0 := hd1.frozen 0))
    | (go_at_call 83; go_loud (refine (got32_yes _ _).mono ?_; rintro e w2 ⟨rfl, rfl⟩)))
  go_end0
  refine ⟨rfl, ?_, ?_⟩
  · have := hd1.set 0 (.int .u32 X)
    simpa using this
  · exact (k1.mono (by simp)).trans ((Keeps.refl _ [bd]).setCell (.inr (by simp)) _) (fun j hj _ => by simp at hj; simp [hj])

theorem full3_no (bd : Nat) (w : World) (hd : w.cell? ⟨bd, 0, none⟩ = some (.int .u32 0)) :
    Calls Tryz.prog 85 #[.pointer (some ⟨bd, 0, none⟩)] w fun e w' => e = .panicked [raisedBy 9 false] ∧ w' = w := by
  go_enter Tryz.func85, Tryz.ntmps85
  go_wp2_with (go_at_call 62; refine (dmust_no (by simp) 9 _).mono ?_; rintro e w1 ⟨rfl, rfl⟩)
  exact ⟨rfl, rfl, rfl⟩

theorem full1_any (bc : Nat) (to : Addr) (s g : Int) (w : World) : Calls Tryz.prog 78 #[.pointer (some to), .int .i64 s, .int .i64 g, .pointer (some ⟨bc, 0, none⟩)] w fun e w' => (∃ cap, e = .returned (.func (.func 79) #[] cap)) ∧ Keeps w w' [] := by
  go_enter Tryz.func78, Tryz.ntmps78
  go_wp2_with fail
  go_ret
  exact ⟨⟨_, rfl⟩, ((((Keeps.refl _ _).alloc _).alloc _).alloc _)⟩
end

end Go.Proofs.YtcmagccfagijlaaGreat
