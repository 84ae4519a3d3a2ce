/-
  A cursor over bytes: Word.
-/
import Derived.Test.YtcmagccfagijlaaGreatDI
import Derived.Test.YtcmagccfagijlaaGreatDH
import Derived.Test.YtcmagccfagijlaaGreatVI
import Derived.Test.YtcmagccfagijlaaGreatRC
import Derived.Shelf.Abstract
import Derived.Laws.BitsLemmas
namespace Go.Proofs.YtcmagccfagijlaaGreat
set_option linter.unusedVariables false
set_option linter.unusedSimpArgs false
set_option linter.unusedSectionVars false
open Go.RowKit Go.Shelf

attribute [local go_sem] Oper.semAt_some

/-- The word that the bytes make, taken from behind. -/
def wordP (ys : List (Nat × Int)) : Int := ys.foldl (fun a y => a * 256 + y.2) 0
def wordL (l : List Int) : Int := wordP (upto (backF l) l.length)
theorem wordP_snoc (ys : List (Nat × Int)) (y : Nat × Int) : wordP (ys ++ [y]) = wordP ys * 256 + y.2 := by simp [wordP]
theorem backF_byte {l : List Int} (h : ∀ x ∈ l, 0 ≤ x ∧ x ≤ 255) (j : Nat) : 0 ≤ (backF l j).2 ∧ (backF l j).2 ≤ 255 := by
  unfold backF
  cases hx : l[l.length - 1 - j]? with
  | none => simp
  | some x => exact h x (List.mem_of_getElem? hx)
theorem wordP_bound {l : List Int} (h : ∀ x ∈ l, 0 ≤ x ∧ x ≤ 255) : ∀ k : Nat, 0 ≤ wordP (upto (backF l) k) ∧ wordP (upto (backF l) k) < 256 ^ k
  | 0 => by simp [upto, wordP]
  | k + 1 => by
    obtain ⟨h1, h2⟩ := wordP_bound h k
    have h3 := backF_byte h k
    rw [upto_succ, wordP_snoc, Int.pow_succ]
    omega

set_option maxRecDepth 100000 in
theorem backward_any (a : Option Addr) (n c : Nat) (w : World) : Calls Tryz.prog 122 #[.slice a n c] w fun e w' => e = .returned (.func (.func 156) #[] #[.pointer (some ⟨w.heap.size, 0, none⟩)]) ∧ w' = w.alloc (.cells #[.slice a n c] 22) := by
  go_enter Tryz.func122, Tryz.ntmps122
  go_wp2_with fail
  go_ret
  exact ⟨rfl, rfl⟩

set_option maxRecDepth 100000 in
set_option maxHeartbeats 4000000 in
theorem word1_any (p h k : Nat) (v : Value) (B : List Int) (w : World) (hc : Cur w p v B k) (hb : Blk w h #[.pointer (some ⟨p, 0, none⟩)] 71) (hhp : h ≠ p) :
    Calls Tryz.prog 121 #[.pointer (some ⟨h, 0, none⟩)] w (CurEnd w p v B (.int .u32 (wordL (bytesX B k 4))) (bytesE B k 4) (bytesK B k 4)) := by
  have HB := Lib.hid (bytes_any p k 4 v B w hc)
  obtain ⟨d0, -⟩ := hb.one
  have hlp := hc.old.1
  have HOLD := Lib.hid hc.old.2
  have hlen : (bytesX B k 4).length ≤ 4 := by
    unfold bytesX
    split
    · simp; omega
    · simp
  have hby : ∀ x ∈ bytesX B k 4, 0 ≤ x ∧ x ≤ 255 := fun x hx => hc.byte x (by
    unfold bytesX at hx
    split at hx
    · exact List.mem_of_mem_drop (List.mem_of_mem_take hx)
    · cases hx)
  have HWB := Lib.hid (wordP_bound hby)
  have HBF := Lib.hid (backF_byte hby)
  clear hc hb hby
  generalize bytesX B k 4 = L at *
  generalize bytesE B k 4 = E at *
  generalize bytesK B k 4 = K at *
  refine calls_of_marks Tryz.func121 rfl ?_
  simp only [Tryz.ntmps121, List.size_toArray, List.length_cons, List.length_nil, Nat.reduceAdd, Nat.reduceSub, Array.replicate_succ, Array.replicate_zero, List.push_toArray, List.append_toArray, List.nil_append, List.cons_append]
  go_wp2_with (first
    | (go_at_call 96; go_loud (refine HB.out.mono ?_; rintro e w1 ⟨r1, rfl, rd1, fr1, cur1, k1⟩; obtain ⟨a1, n1, c1, rfl, -, -⟩ := rd1.form))
    | (go_at_call 122; go_loud (refine (backward_any _ _ _ _).mono ?_; rintro e w2 ⟨rfl, rfl⟩)))
  have hs1 := k1.size
  have hbk : ∀ j ∈ blocksOf (.slice a1 n1 c1), w.heap.size ≤ j ∧ j < w1.heap.size := fun j hj => by
    cases a1 with
    | none => simp [blocksOf] at hj
    | some a =>
      by_cases h0 : 0 < n1
      · simp [blocksOf, h0] at hj
        obtain ⟨b, o, he, hb, -⟩ := rd1.addr h0
        cases he
        subst hj
        exact ⟨fr1 _ _ _ rfl, hb⟩
      · simp [blocksOf, h0] at hj
  have kz : Keeps w1 ((w1.alloc (.cells #[.int .u32 0] 24)).alloc (.cells #[.slice a1 n1 c1] 22)) [] := ((Keeps.refl w1 []).alloc _).alloc _
  have bn0 := (Blk.new w1 #[.int .u32 0] 24).alloc (.cells #[.slice a1 n1 c1] 22)
  have bs0 := Blk.new (w1.alloc (.cells #[.int .u32 0] 24)) #[.slice a1 n1 c1] 22
  simp only [World.size_alloc] at bs0
  have hsz : ((w1.alloc (.cells #[.int .u32 0] 24)).alloc (.cells #[.slice a1 n1 c1] 22)).heap.size = w1.heap.size + 2 := by simp
  have rdz := rd1.keeps kz
  have HBK := Lib.hid hbk
  clear rd1
  generalize ((w1.alloc (.cells #[.int .u32 0] 24)).alloc (.cells #[.slice a1 n1 c1] 22)) = Z at *
  obtain ⟨Y, hY⟩ : ∃ Y, Y = blocksOf (.slice a1 n1 c1) := ⟨_, rfl⟩
  have hseq := backY (w1.heap.size + 1) (.slice a1 n1 c1) L Z bs0 rdz (by omega)
  rw [← hY] at hseq hbk HBK
  have kY : Keeps w1 Z Y := kz.mono (by simp)
  clear hbk hY rdz kz bs0
  refine range_PY (gf := 156) (lb := #[.pointer (some ⟨w1.heap.size + 1, 0, none⟩)]) rfl (enters_of Tryz.func156 (by kernel_rfl) rfl)
    hseq ?hX (fun _ => rfl) 0
    (fun pre W => ∃ j : Nat, pre = upto (backF L) j ∧ Blk W w1.heap.size #[.int .u32 (wordP pre)] 24 ∧ Keeps w1 W Y)
    (fun pre W => False)
    (fun W => Blk W w1.heap.size #[.int .u32 (wordL L)] 24 ∧ Keeps w1 W Y)
    ?hI ?hIx ?h0 ?hround ?hdone ?hstop ?hex ?hrest
  case hX =>
    intro j hj
    rcases List.mem_append.1 hj with hj | hj
    · simp at hj; omega
    · have := HBK.out j hj; omega
  case hI =>
    rintro s A B' ⟨j, hj, bn, ka⟩ hab
    rw [hsz] at hab
    refine ⟨j, hj, bn.keeps hab ?_, ka.trans hab (fun j hj hlt => ?_)⟩
    · intro hm
      simp only [List.mem_append, List.mem_cons, List.not_mem_nil, or_false] at hm
      rcases hm with (hm | hm) | hm | hm
      · omega
      · have := HBK.out _ hm; omega
      · omega
      · omega
    · simp only [List.mem_append, List.mem_cons, List.not_mem_nil, or_false] at hj
      rcases hj with (hj | hj) | hj | hj
      · omega
      · exact hj
      · omega
      · omega
  case hIx => exact fun s A B' h _ => h
  case hstop => exact fun pre X' _ h => h.elim
  case hex => exact fun a' W h => by simpa [Exit.inBlock, Exit.noGoto] using h
  case h0 => exact ⟨0, rfl, bn0, kY⟩
  case hdone =>
    rintro xs W hS ⟨j, hj, bn, ka⟩
    rw [hS] at bn
    exact ⟨bn, ka⟩
  case hround =>
    rintro l pre x W hl hlt hD hF ⟨j, rfl, bn, ka⟩ hsp
    obtain ⟨hjl, rfl⟩ := upto_next hsp
    subst hl
    rw [hsz] at hlt hD
    obtain ⟨q1, q2⟩ := HWB.out j
    obtain ⟨q3, q4⟩ := HBF.out j
    have hsn := wordP_snoc (upto (backF L) j) (backF L j)
    have h3 : (256 : Int) ^ j ≤ 16777216 := by
      have : j = 0 ∨ j = 1 ∨ j = 2 ∨ j = 3 := by omega
      rcases this with h | h | h | h <;> rw [h] <;> decide
    have q2' : wordP (upto (backF L) j) < 16777216 := by omega
    have HU := Lib.hid (upto_succ (backF L) j)
    generalize wordP (upto (backF L) j) = A at *
    clear q2 h3 HWB HBF hsp
    gi_wp2
    refine ⟨SameAt.refl _ _, fun W2 hT => ?_⟩
    rw [hsz] at hT
    have bn2 := hT.blk bn
    have ka2 : Keeps w1 W2 Y := ka.trans hT.keeps (fun j hj hlt => by simp at hj; omega)
    obtain ⟨cn, fn⟩ := bn2.one
    have hm1 : A * 256 % 4294967296 = A * 256 := by omega
    have hm2 : IntKind.u32.wrap (A * 256) = A * 256 := by rw [IntKind.wrap_u32]; omega
    have hm3 : (backF L j).2 % 4294967296 = (backF L j).2 := by omega
    have hor : bits BinOp.or IntKind.u32 (A * 256) (backF L j).2 = A * 256 + (backF L j).2 := bits_join .u32 32 (by decide) (fun n h0 h1 => by rw [IntKind.wrap_u32]; omega) 8 _ _ (by omega) (by omega) (by omega) q3 (by omega) (by omega)
    have HSN := Lib.hid hsn
    have BN2 := Lib.hid bn2
    clear hsn bn2 bn hT
    gi_wp2
    try rw [hm3]
    try rw [hor]
    rw [← HSN.out]
    have NB := BN2.out.set 0 (.int .u32 (wordP (upto (backF L) j ++ [backF L j])))
    refine ⟨fun k' hk' => Below.heap_setCell W2 _ _ k' ?_, j + 1, HU.out.symm, NB, ka2.setCell (.inl (Nat.le_refl _)) _⟩
    dsimp only
    simp only [List.mem_append, List.mem_cons, List.not_mem_nil, or_false, hsz] at hk'
    rcases hk' with (hk' | hk') | hk' | hk'
    · omega
    · have := HBK.out _ hk'; omega
    · omega
    · omega
  case hrest =>
    rintro D X' hD hK ⟨bn, ka⟩
    obtain ⟨cn, -⟩ := bn.one
    simp only [Exit.inBlock, Exit.then]
    have HW := Lib.hid (rfl : wordL L = wordL L)
    generalize wordL L = WL at *
    go_wp2_with fail
    refine ⟨by simp, .inl ⟨_, _, rfl, run_takeDeferred hK, ?_⟩⟩
    rw [hsz] at hD
    have kp : Keeps X' (X'.putObj D (.deferred none)) [D] := keeps_put
    have kq : Keeps w1 (X'.putObj D (.deferred none)) Y := ka.trans kp (fun j hj hlt => by simp at hj; omega)
    refine ⟨.tuple #[.int .u32 WL, .int .i64 E], by simp [results, Tryz.results121], rfl, ?_, ?_⟩
    · refine cur1.keepsS kq (fun hm => by have := HBK.out _ hm; omega) (fun ad n' c' he h0 hm => ?_)
      have := HOLD.out ad n' c' he h0
      have := HBK.out _ hm
      omega
    · exact k1.trans kq (fun j hj hlt => by have := HBK.out _ hj; omega)

theorem wordE_iff (B : List Int) (k : Nat) : (if bytesE B k 4 = 0 then wordL (bytesX B k 4) else 0) = wordL (bytesX B k 4) := by
  by_cases h : bytesE B k 4 = 0
  · rw [if_pos h]
  · rw [if_neg h, bytesX, if_neg h]; rfl

set_option maxRecDepth 100000 in
theorem word_any (p k : Nat) (v : Value) (B : List Int) (w : World) (hc : Cur w p v B k) :
    Calls Tryz.prog 84 #[.pointer (some ⟨p, 0, none⟩)] w (CurEnd w p v B (.int .u32 (wordL (bytesX B k 4))) (bytesE B k 4) (bytesK B k 4)) := by
  have hp := hc.old.1
  have k0 : Keeps w (w.alloc (.cells #[.pointer (some ⟨p, 0, none⟩)] 71)) [] := (Keeps.refl w []).alloc _
  have b0 := Blk.new w #[.pointer (some ⟨p, 0, none⟩)] 71
  have h := readU32_any p k (bytesK B k 4) v B (w.alloc (.cells #[.pointer (some ⟨p, 0, none⟩)] 71)) #[.pointer (some ⟨w.heap.size, 0, none⟩)] (wordL (bytesX B k 4)) (bytesE B k 4) (hc.keeps k0)
    (fun w1 k1 => word1_any p w.heap.size k v B w1 ((hc.keeps k0).keeps k1) (b0.keeps k1 (by simp)) (by omega))
  rw [wordE_iff, (bytesE_iff B k 4).2] at h
  have H := Lib.hid h
  clear h hc
  generalize wordL (bytesX B k 4) = X at *
  generalize bytesE B k 4 = E at *
  generalize bytesK B k 4 = K' at *
  go_enter Tryz.func84, Tryz.ntmps84
  go_wp2_with (refine H.out.mono ?_; rintro e w1 ⟨rfl, cur1, k1⟩)
  exact bodyPost_ret (v := .tuple #[.int .u32 X, .int .i64 E]) (by simp [results, Tryz.results84]) rfl ⟨rfl, cur1, (k0.mono (by simp)).trans k1 (fun j hj _ => hj)⟩

end Go.Proofs.YtcmagccfagijlaaGreat
