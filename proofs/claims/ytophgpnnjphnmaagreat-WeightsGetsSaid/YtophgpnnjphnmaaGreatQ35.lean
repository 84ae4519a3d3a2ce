/-
  What a description of a tree says, in one word: weights.Decode and the reference's Get; Decode without a cursor. (Printed by mkWu.py.)
-/
import Derived.Test.YtophgpnnjphnmaaGreatQ33
import Derived.Test.YtophgpnnjphnmaaGreatQ34
namespace Go.Proofs.YtophgpnnjphnmaaGreat
set_option linter.unusedVariables false
set_option linter.unusedSimpArgs false
set_option linter.unusedSectionVars false
open Go.RowKit

/-- The tree of weights, with a position; or an error. -/
def finW (L : List Int) (K : Nat) : Except Int (List Int × Nat) := if okW L = true then .ok (tOf L, K) else .error 12
/-- The tree that a description at k says, and the position behind it; or an error. -/
def getW (B : List Int) (k : Nat) : Except Int (List Int × Nat) :=
  if numE B k 255 ≠ 0 then .error (numE B k 255) else
  if numX B k 255 = 0 then .error 12 else
  if B.length ≤ numK B k 255 then .error 3 else
  if byteX B (numK B k 255) = 0 then
    (if halvE B (numK B k 255 + 1) (numX B k 255) ≠ 0 then .error (halvE B (numK B k 255 + 1) (numX B k 255)) else
      finW (halvX B (numK B k 255 + 1) (numX B k 255)) (bytesK B (numK B k 255 + 1) (((numX B k 255 + 1) / 2 : Nat) : Int)))
  else if byteX B (numK B k 255) = 1 then
    (match (codedR B (numK B k 255 + 1) (numX B k 255)).1 with
      | .error n => .error n
      | .ok L => finW L (codedR B (numK B k 255 + 1) (numX B k 255)).2)
  else .error 12

theorem flowG_len {c : Nat → Cel} : ∀ {k : Nat} {R : List Bool} {now other : Nat} {out o : List Int}, flowG c k R now other out = .ok o → o.length = out.length + k
  | 0, R, now, other, out, o, h => by
    unfold flowG at h
    split at h
    · injection h with h
      rw [← h]; rfl
    · cases h
  | k + 1, R, now, other, out, o, h => by
    unfold flowG at h
    split at h
    · split at h
      · cases h
      · have := flowG_len h
        simp only [List.length_append, List.length_singleton] at this
        omega
    · have := flowG_len h
      simp only [List.length_append, List.length_singleton] at this
      omega
theorem flowD_len {g : Int} {norm B o : List Int} {n : Nat} (h : flowD g norm B n = .ok o) : o.length = n := by
  unfold flowD at h
  split at h
  · cases h
  · split at h
    · cases h
    · unfold flowP at h
      split at h
      · cases h
      · split at h
        · cases h
        · have := flowG_len h
          simpa using this
theorem codedR_len {B o : List Int} {k m : Nat} (h : (codedR B k m).1 = .ok o) : o.length = m := by
  unfold codedR at h
  split at h
  · cases h
  · split at h
    · cases h
    · split at h
      · cases h
      · exact flowD_len h
theorem numX_most {B : List Int} {k M : Nat} (h : numE B k M = 0) : numX B k M ≤ M := by
  unfold numX
  rw [if_pos h]
  unfold numE at h
  split at h
  · cases h
  · omega
/-- How Decode ends, in one word. -/
def DecAll (w : World) (p : Nat) (v : Value) (B : List Int) (Z : Except Int (List Int × Nat)) (e : Ending) (w' : World) : Prop :=
  match Z with
  | .ok (L, K) => DecEnd w p v B L 0 K e w'
  | .error n => ∃ K, DecEnd w p v B [] n K e w'
theorem byteX_far {B : List Int} {k : Nat} (h : B.length ≤ k) : byteX B k = 0 := by
  unfold byteX; rw [List.getElem?_eq_none h]; rfl

theorem decode_any (p k : Nat) (v : Value) (B : List Int) (w : World) (hc : Cur w p v B k) :
    Calls Tryz.prog 29 #[.pointer (some ⟨p, 0, none⟩)] w (DecAll w p v B (getW B k)) := by
  unfold getW
  by_cases h1 : numE B k 255 = 0
  · rw [if_neg (by simpa using h1)]
    by_cases h2 : numX B k 255 = 0
    · rw [if_pos h2]
      exact (decode_zero p k v B w hc h1 h2).mono fun e w' h => ⟨_, h⟩
    · rw [if_neg h2]
      have hX : 0 < numX B k 255 := by omega
      by_cases h3 : B.length ≤ numK B k 255
      · rw [if_pos h3]
        have hb : byteE B (numK B k 255) = 3 := by unfold byteE; rw [if_neg (by omega)]
        have := decode_byte p k v B w hc h1 hX (by rw [hb]; decide)
        rw [hb] at this
        exact this.mono fun e w' h => ⟨_, h⟩
      · rw [if_neg h3]
        have hb : byteE B (numK B k 255) = 0 := by unfold byteE; rw [if_pos (by omega)]
        have hk : byteK B (numK B k 255) = numK B k 255 + 1 := by unfold byteK; rw [if_pos (by omega)]
        by_cases h4 : byteX B (numK B k 255) = 0
        · rw [if_pos h4]
          by_cases h5 : halvE B (numK B k 255 + 1) (numX B k 255) = 0
          · rw [if_neg (by simpa using h5)]
            unfold finW
            cases ht : okW (halvX B (numK B k 255 + 1) (numX B k 255)) with
            | true =>
              rw [if_pos rfl]
              have := decode_yes p k v B w hc h1 hX hb h4 (by rw [hk]; exact h5) (by rw [hk]; exact ht)
              rw [hk] at this
              exact this
            | false =>
              rw [if_neg (by simp)]
              have := decode_tno p k v B w hc h1 hX hb h4 (by rw [hk]; exact h5) (by rw [hk]; exact ht)
              exact this.mono fun e w' h => ⟨_, h⟩
          · rw [if_pos h5]
            have := decode_halv p k v B w hc h1 hX hb h4 (by rw [hk]; exact h5)
            rw [hk] at this
            exact this.mono fun e w' h => ⟨_, h⟩
        · rw [if_neg h4]
          by_cases h6 : byteX B (numK B k 255) = 1
          · rw [if_pos h6]
            cases hh : (codedR B (numK B k 255 + 1) (numX B k 255)).1 with
            | error n =>
              have := decode_cod p k v B w hc h1 hX hb h6 (by rw [hk]; exact hh)
              exact this.mono fun e w' h => ⟨_, h⟩
            | ok L =>
              have hl := codedR_len hh
              have hm := numX_most h1
              simp only
              unfold finW
              cases ht : okW L with
              | true =>
                rw [if_pos rfl]
                have := decode_cyes p k v B w hc h1 hX hb h6 (by rw [hk]; exact hh) (by omega) ht
                rw [hk] at this
                exact this
              | false =>
                rw [if_neg (by simp)]
                have := decode_cno p k v B w hc h1 hX hb h6 (by rw [hk]; exact hh) (by omega) ht
                exact this.mono fun e w' h => ⟨_, h⟩
          · rw [if_neg h6]
            have hx := byteX_bound hc.byte (numK B k 255)
            have := decode_way p k v B w hc h1 hX hb (by omega)
            exact this.mono fun e w' h => ⟨_, h⟩
  · rw [if_pos h1]
    exact (decode_num p k v B w hc h1).mono fun e w' h => ⟨_, h⟩

/-! Without a cursor. -/
set_option maxRecDepth 100000 in
theorem readInt_nil (f : Value) (w : World) : Calls Tryz.prog 97 #[.pointer none, f] w fun e w' => e = .returned (.tuple #[.int .i64 0, .int .i64 1]) ∧ Keeps w w' [] := by
  have q1 := ((Blk.new (w.alloc (.cells #[.pointer none] 44)) #[.int .i64 0] 3).alloc (.cells #[.int .i64 0] 24))
  go_enter_defers Tryz.func97, Tryz.ntmps97
  go_wp2_with fail
  obtain ⟨x1, -⟩ := q1.one
  refine ⟨.tuple #[.int .i64 0, .int .i64 1], by simp only [results, Tryz.results97]; go_simp, ?_⟩
  exact ⟨rfl, (((Keeps.refl w []).alloc _).alloc _).alloc _⟩

set_option maxRecDepth 100000 in
theorem number_nil (m : Int) (w : World) : Calls Tryz.prog 74 #[.pointer none, .int .i64 m] w fun e w' => e = .returned (.tuple #[.int .i64 0, .int .i64 1]) ∧ Keeps w w' [] := by
  have HR := Lib.hid (fun f W => readInt_nil f W)
  have k0 := ((Keeps.refl w []).alloc (.cells #[.pointer none] 44)).alloc (.cells #[.int .i64 m] 3)
  go_enter Tryz.func74, Tryz.ntmps74
  go_wp2_with (go_at_call 97; go_loud (refine (HR.out _ _).mono ?_; rintro e w1 ⟨rfl, k1⟩))
  go_ret2
  exact ⟨rfl, k0.then k1⟩

set_option maxRecDepth 100000 in
theorem rnumber1_nil (hr hm : Nat) (m : Int) (w : World) (hb : Blk w hr #[.pointer none] 73) (hq : Blk w hm #[.int .i64 m] 3) :
    Calls Tryz.prog 73 #[.pointer (some ⟨hr, 0, none⟩), .pointer (some ⟨hm, 0, none⟩)] w fun e w' => e = .returned (.tuple #[.int .i64 0, .int .i64 1]) ∧ Keeps w w' [] := by
  have H := Lib.hid (number_nil m w)
  obtain ⟨b0, -⟩ := hb.one
  obtain ⟨m0, -⟩ := hq.one
  clear hb hq
  go_enter Tryz.func73, Tryz.ntmps73
  go_wp2_with (refine H.out.mono ?_; rintro e w1 ⟨rfl, k1⟩)
  go_ret2
  exact ⟨rfl, k1⟩

set_option maxRecDepth 100000 in
set_option maxHeartbeats 2000000 in
theorem wreadInt_nil (w : World) (lb : Array Value)
    (hg : Calls Tryz.prog 73 lb w fun e w' => e = .returned (.tuple #[.int .i64 0, .int .i64 1]) ∧ Keeps w w' []) :
    Calls Tryz.prog 72 #[.func (.func 73) #[] lb] w fun e w' => e = .panicked [raisedBy 1 false] ∧ Keeps w w' [] := by
  have HG := Lib.hid hg
  clear hg
  go_enter Tryz.func72, Tryz.ntmps72
  go_wp2_with (first | (go_at_call 73; refine HG.out.mono ?_; rintro e w1 ⟨rfl, k1⟩) | (go_at_call 63; refine (wmust_no 1 (by decide) _ _ (Blk.newA rfl)).mono ?_; rintro e w5 ⟨rfl, rfl⟩))
  exact ⟨rfl, rfl, k1.alloc _⟩

set_option maxRecDepth 100000 in
theorem rnumber_nil (M : Int) (w : World) :
    Calls Tryz.prog 53 #[.agg #[.pointer none], .int .i64 M] w fun e w' => e = .panicked [raisedBy 1 false] ∧ Keeps w w' [] := by
  have k0 : Keeps w ((w.alloc (.cells #[.pointer none] 73)).alloc (.cells #[.int .i64 M] 3)) [] := ((Keeps.refl w []).alloc _).alloc _
  have b0 := (Blk.new w #[.pointer none] 73).alloc (.cells #[.int .i64 M] 3)
  have b1 := Blk.new (w.alloc (.cells #[.pointer none] 73)) #[.int .i64 M] 3
  simp only [World.size_alloc] at b1
  have H := Lib.hid (wreadInt_nil _ _ (rnumber1_nil w.heap.size (w.heap.size + 1) M _ b0 b1))
  clear b0 b1
  go_enter Tryz.func53, Tryz.ntmps53
  go_wp2_with (refine H.out.mono ?_; rintro e w1 ⟨rfl, k1⟩)
  exact ⟨rfl, rfl, k0.then k1⟩

set_option maxRecDepth 100000 in
set_option maxHeartbeats 4000000 in
theorem decode_nil (w : World) :
    Calls Tryz.prog 29 #[.pointer none] w fun e w' => (∃ r, e = .returned (.tuple #[r, .int .i64 1])) ∧ Keeps w w' [] := by
  have hmf : ∀ (fn : Fn) (first cap : Array Value) (w : World), (Instr.makeFunc fn first cap).run Tryz.prog w = .ok (.func fn first cap) w := fun _ _ _ _ => rfl
  have k0 : Keeps w (((w.alloc (.cells #[.slice none 0 0] 22)).alloc (.cells #[.int .i64 0] 24)).alloc (.cells #[.pointer none] 73)) [] := (((Keeps.refl w []).alloc _).alloc _).alloc _
  have bo := ((Blk.new w #[.slice none 0 0] 22).alloc (.cells #[.int .i64 0] 24)).alloc (.cells #[.pointer none] 73)
  have be := (Blk.new (w.alloc (.cells #[.slice none 0 0] 22)) #[.int .i64 0] 24).alloc (.cells #[.pointer none] 73)
  simp only [World.size_alloc] at be
  have HN := Lib.hid (fun W => rnumber_nil 255 W)
  go_enter_defers Tryz.func29, Tryz.ntmps29
  go_wp2_with (go_at_call 53; go_loud (refine (HN.out _).mono ?_; rintro e w1 ⟨rfl, k1⟩))
  replace bo := bo.keeps k1 (by simp)
  replace be := be.keeps k1 (by simp)
  replace k0 := k0.then k1
  obtain ⟨e0, e1⟩ := be.one
  obtain ⟨o0, o1⟩ := bo.one
  refine leaves_cons (f := 35) (args := #[.pointer (some ⟨w.heap.size + 1, 0, none⟩), .func (.func 52) #[] #[.pointer (some ⟨w.heap.size, 0, none⟩)]]) (by simp) (by simp [go_sem]) ?_
  refine (wcaught_dec _ _ (1) _ _ _ _ [] _ be bo (by omega)).mono ?_
  rintro e u' w'' ⟨rfl, rfl, rfl⟩
  refine ⟨.tuple #[.slice none 0 0, .int .i64 (1)], by simp only [results, Tryz.results29]; go_simp, ?_⟩
  exact ⟨⟨_, rfl⟩, Keeps.setCell' (.inl (by dsimp only; omega)) (Keeps.setCell' (.inl (by dsimp only; omega)) k0)⟩

set_option maxRecDepth 100000 in
theorem at_any (p k : Nat) (v : Value) (B : List Int) (w : World) (hc : Cur w p v B k) :
    Calls Tryz.prog 30 #[.pointer (some ⟨p, 0, none⟩)] w fun e w' => e = .returned (.int .i64 (k : Int)) ∧ Keeps w w' [] := by
  obtain ⟨c0, c1, f1⟩ := hc.cells
  clear hc
  go_enter Tryz.func30, Tryz.ntmps30
  go_wp2_with fail
  go_ret
  exact ⟨rfl, Keeps.refl _ _⟩

/-- How the reference's Get ends. -/
def GtRef (w : World) (Z : Except Int (List Int × Nat)) (e : Ending) (w' : World) : Prop :=
  Keeps w w' [] ∧ match Z with
    | .ok (L, K) => ∃ r, e = .returned (.tuple #[r, .int .i64 (K : Int), .int .i64 0]) ∧ RdI .i64 w' r L
    | .error n => n ≠ 0 ∧ ∃ (r : Value) (N : Nat), e = .returned (.tuple #[r, .int .i64 (N : Int), .int .i64 n]) ∧ RdI .i64 w' r []

set_option maxRecDepth 100000 in
set_option maxHeartbeats 8000000 in
theorem r16get_any (k : Nat) (v : Value) (B : List Int) (w : World) (hv : RdI .u8 w v B) (hl : B.length ≤ 100000) (hb : ∀ x ∈ B, 0 ≤ x ∧ x ≤ 255) (hk : k ≤ B.length) :
    Calls Tryz.prog 25 #[v, .int .i64 (k : Int)] w (GtRef w (getW B k)) := by
  obtain ⟨A0, n, cp, rfl, hn, -⟩ := hv.form
  have HN := Lib.hid (rvnumber_any k 255 _ B w hv (by omega) hb hk (by decide))
  rw [show ((255 : Nat) : Int) = 255 from rfl] at HN
  have hnk := numK_le (M := 255) hk
  have hmost : numE B k 255 = 0 → numX B k 255 ≤ 255 := fun h => numX_most h
  have hcap := hv.cap
  obtain ⟨Z, hZ⟩ : ∃ Z, getW B k = Z := ⟨_, rfl⟩
  rw [hZ]
  unfold getW at hZ
  obtain ⟨NX, hNX⟩ : ∃ N, numX B k 255 = N := ⟨_, rfl⟩
  obtain ⟨NK, hNK⟩ : ∃ N, numK B k 255 = N := ⟨_, rfl⟩
  obtain ⟨NE, hNE⟩ : ∃ N, numE B k 255 = N := ⟨_, rfl⟩
  rw [hNX, hNK, hNE] at HN hZ
  rw [hNK] at hnk
  rw [hNX, hNE] at hmost
  clear hNX hNK hNE
  by_cases hE : NE = 0
  · subst hE
    rw [if_neg (by simp)] at hZ
    have hNX5 := hmost rfl
    by_cases hX : NX = 0
    · subst hX
      rw [if_pos rfl] at hZ
      subst hZ
      clear hv hl hb hk hmost hn
      go_enter Tryz.func25, Tryz.ntmps25
      go_wp2_with (first
        | (go_at_call 45; go_loud (refine HN.out.mono ?_; rintro e w1 ⟨rfl, k1⟩)))
      exact bodyPost_ret (v := .tuple #[.slice none 0 0, .int .i64 (k : Int), .int .i64 12]) (by simp only [results, Tryz.results25]; go_simp) rfl ⟨k1, by decide, _, k, rfl, .nil⟩
    · rw [if_neg hX] at hZ
      have hX1 : ((NX : Int) == 0) = false := by simp; omega
      have hX2 : (NX == 0) = false := by simpa using hX
      by_cases hS : B.length ≤ NK
      · rw [if_pos hS] at hZ
        subst hZ
        have hge : decide ((n : Int) ≤ (NK : Int)) = true := decide_eq_true (by omega)
        have hgeN : decide (n ≤ NK) = true := decide_eq_true (by omega)
        clear hv hl hb hk hmost hn
        go_enter Tryz.func25, Tryz.ntmps25
        go_wp2_with (first
          | (go_at_call 45; go_loud (refine HN.out.mono ?_; rintro e w1 ⟨rfl, k1⟩)))
        exact bodyPost_ret (v := .tuple #[.slice none 0 0, .int .i64 (k : Int), .int .i64 3]) (by simp only [results, Tryz.results25]; go_simp) rfl ⟨k1, by decide, _, k, rfl, .nil⟩
      · rw [if_neg hS] at hZ
        have hge : decide ((n : Int) ≤ (NK : Int)) = false := decide_eq_false (by omega)
        have hgeN : decide (n ≤ NK) = false := decide_eq_false (by omega)
        obtain ⟨x, hx⟩ : ∃ x, B[NK]? = some x := ⟨_, List.getElem?_eq_getElem (by omega)⟩
        obtain ⟨b0, o, rfl, hbb, hc⟩ := hv.at hx
        have hNKn : (NK : Int) < (n : Int) := by omega
        rw [byteX_some hx] at hZ
        by_cases hx0 : x = 0
        · subst hx0
          rw [if_pos rfl] at hZ
          have HH := Lib.hid (fun W (kk : Keeps w W []) => rhalv_any (NK + 1) NX _ B W (hv.keeps kk) hl hb (by omega) (by omega) (by omega))
          rw [show ((NK + 1 : Nat) : Int) = (NK : Int) + 1 from by omega] at HH
          obtain ⟨NK1, hNK1⟩ : ∃ D : Int, (NK : Int) + 1 = D := ⟨_, rfl⟩
          have hwN : wrap64 NK1 = NK1 := IntWalk.wrap64_in _ ⟨by omega, by omega⟩
          rw [hNK1] at HH
          have hxl : (halvX B (NK + 1) NX).length ≤ 255 := by unfold halvX; rw [List.length_take]; omega
          obtain ⟨L, hL⟩ : ∃ L, halvX B (NK + 1) NX = L := ⟨_, rfl⟩
          obtain ⟨HE, hHE⟩ : ∃ L, halvE B (NK + 1) NX = L := ⟨_, rfl⟩
          obtain ⟨KB, hKB⟩ : ∃ L, bytesK B (NK + 1) (((NX + 1) / 2 : Nat) : Int) = L := ⟨_, rfl⟩
          rw [hL, hHE, hKB] at HH hZ
          rw [hL] at hxl
          have HT := Lib.hid (fun W u (h : RdI .i64 W u L) => r_tree u L W h (by omega))
          clear hv hl hb hk hmost hn hx hL hHE hKB
          by_cases hh : HE = 0
          · subst hh
            rw [if_neg (by simp)] at hZ
            unfold finW at hZ
            cases ht : okW L with
            | true =>
              rw [ht, if_pos rfl] at hZ
              subst hZ
              have ht1 : treeOut L = tOf L := by simp [treeOut, ht]
              have ht2 : treeErr L = 0 := by simp [treeErr, ht]
              rw [ht1, ht2] at HT
              clear ht1 ht2 ht
              go_enter Tryz.func25, Tryz.ntmps25
              go_wp2_with (first
                | (go_at_call 45; go_loud (refine HN.out.mono ?_; rintro e w1 ⟨rfl, k1⟩; have c1 := (k1.cell (p := ⟨b0, o + NK, none⟩) hbb (by simp)).trans hc))
                | (go_at_call 46; go_loud (refine (HH.out _ k1).mono ?_; rintro e w2 ⟨k2, r, N, rfl, hr⟩; have kk2 := k1.then k2; obtain ⟨rd2, rfl⟩ := hr rfl; have RD2 := Lib.hid rd2; clear rd2 hr))
                | (go_at_call 18; go_loud (refine (HT.out _ _ RD2.out).mono ?_; rintro e w3 ⟨v3, rfl, rd3, -, k3⟩; have kk3 := kk2.then k3; have RD3 := Lib.hid rd3; clear rd3)))
              exact bodyPost_ret (v := .tuple #[v3, .int .i64 (N : Int), .int .i64 0]) (by simp only [results, Tryz.results25]; go_simp) rfl ⟨kk3, v3, rfl, RD3.out⟩
            | false =>
              rw [ht, if_neg (by simp)] at hZ
              subst hZ
              have ht1 : treeOut L = [] := by simp [treeOut, ht]
              have ht2 : treeErr L = 12 := by simp [treeErr, ht]
              rw [ht1, ht2] at HT
              clear ht1 ht2 ht
              go_enter Tryz.func25, Tryz.ntmps25
              go_wp2_with (first
                | (go_at_call 45; go_loud (refine HN.out.mono ?_; rintro e w1 ⟨rfl, k1⟩; have c1 := (k1.cell (p := ⟨b0, o + NK, none⟩) hbb (by simp)).trans hc))
                | (go_at_call 46; go_loud (refine (HH.out _ k1).mono ?_; rintro e w2 ⟨k2, r, N, rfl, hr⟩; have kk2 := k1.then k2; obtain ⟨rd2, rfl⟩ := hr rfl; have RD2 := Lib.hid rd2; clear rd2 hr))
                | (go_at_call 18; go_loud (refine (HT.out _ _ RD2.out).mono ?_; rintro e w3 ⟨v3, rfl, rd3, -, k3⟩; have kk3 := kk2.then k3; have RD3 := Lib.hid rd3; clear rd3)))
              exact bodyPost_ret (v := .tuple #[v3, .int .i64 (N : Int), .int .i64 12]) (by simp only [results, Tryz.results25]; go_simp) rfl ⟨kk3, by decide, v3, N, rfl, RD3.out⟩
          · rw [if_pos hh] at hZ
            subst hZ
            have hh1 : (HE != 0) = true := by simpa using hh
            have hh2 : (HE == 0) = false := by simpa using hh
            have HH0 := Lib.hid hh
            clear hh HT
            go_enter Tryz.func25, Tryz.ntmps25
            go_wp2_with (first
              | (go_at_call 45; go_loud (refine HN.out.mono ?_; rintro e w1 ⟨rfl, k1⟩; have c1 := (k1.cell (p := ⟨b0, o + NK, none⟩) hbb (by simp)).trans hc))
              | (go_at_call 46; go_loud (refine (HH.out _ k1).mono ?_; rintro e w2 ⟨k2, r, N, rfl, hr⟩; have kk2 := k1.then k2; clear hr)))
            exact bodyPost_ret (v := .tuple #[.slice none 0 0, .int .i64 (k : Int), .int .i64 HE]) (by simp only [results, Tryz.results25]; go_simp) rfl ⟨kk2, HH0.out, _, k, rfl, .nil⟩
        · rw [if_neg hx0] at hZ
          have hx01 : (x == 0) = false := by simpa using hx0
          by_cases hx1 : x = 1
          · subst hx1
            rw [if_pos rfl] at hZ
            have HH := Lib.hid (fun W (kk : Keeps w W []) => rcoded_any (NK + 1) NX _ B W (hv.keeps kk) hl hb (by omega) (by omega) (by omega))
            rw [show ((NK + 1 : Nat) : Int) = (NK : Int) + 1 from by omega] at HH
            obtain ⟨NK1, hNK1⟩ : ∃ D : Int, (NK : Int) + 1 = D := ⟨_, rfl⟩
            have hwN : wrap64 NK1 = NK1 := IntWalk.wrap64_in _ ⟨by omega, by omega⟩
            rw [hNK1] at HH
            unfold CodRef at HH
            have hcl : ∀ o, (codedR B (NK + 1) NX).1 = .ok o → o.length = NX := fun o h => codedR_len h
            obtain ⟨CR, hCR⟩ : ∃ L, codedR B (NK + 1) NX = L := ⟨_, rfl⟩
            rw [hCR] at HH hZ hcl
            obtain ⟨C1, C2⟩ := CR
            simp only at HH hZ hcl
            clear hv hl hb hk hmost hn hx hCR
            cases C1 with
            | error er =>
              simp only at HH hZ
              subst hZ
              clear hcl
              go_enter Tryz.func25, Tryz.ntmps25
              go_wp2_with (first
                | (go_at_call 45; go_loud (refine HN.out.mono ?_; rintro e w1 ⟨rfl, k1⟩; have c1 := (k1.cell (p := ⟨b0, o + NK, none⟩) hbb (by simp)).trans hc))
                | (go_at_call 47; go_loud (refine (HH.out _ k1).mono ?_; rintro e w2 ⟨k2, her, r, N, rfl⟩; have kk2 := k1.then k2; have her1 : (er != 0) = true := (by simpa using her); have her2 : (er == 0) = false := (by simpa using her); have HER := Lib.hid her; clear her)))
              exact bodyPost_ret (v := .tuple #[.slice none 0 0, .int .i64 (k : Int), .int .i64 er]) (by simp only [results, Tryz.results25]; go_simp) rfl ⟨kk2, HER.out, _, k, rfl, .nil⟩
            | ok L =>
              have hxl := hcl L rfl
              have HT := Lib.hid (fun W u (h : RdI .i64 W u L) => r_tree u L W h (by omega))
              simp only at HH hZ
              clear hcl
              unfold finW at hZ
              cases ht : okW L with
              | true =>
                rw [ht, if_pos rfl] at hZ
                subst hZ
                have ht1 : treeOut L = tOf L := by simp [treeOut, ht]
                have ht2 : treeErr L = 0 := by simp [treeErr, ht]
                rw [ht1, ht2] at HT
                clear ht1 ht2 ht hxl
                go_enter Tryz.func25, Tryz.ntmps25
                go_wp2_with (first
                  | (go_at_call 45; go_loud (refine HN.out.mono ?_; rintro e w1 ⟨rfl, k1⟩; have c1 := (k1.cell (p := ⟨b0, o + NK, none⟩) hbb (by simp)).trans hc))
                  | (go_at_call 47; go_loud (refine (HH.out _ k1).mono ?_; rintro e w2 ⟨k2, r, rfl, rd2⟩; have kk2 := k1.then k2; have RD2 := Lib.hid rd2; clear rd2))
                  | (go_at_call 18; go_loud (refine (HT.out _ _ RD2.out).mono ?_; rintro e w3 ⟨v3, rfl, rd3, -, k3⟩; have kk3 := kk2.then k3; have RD3 := Lib.hid rd3; clear rd3)))
                exact bodyPost_ret (v := .tuple #[v3, .int .i64 (C2 : Int), .int .i64 0]) (by simp only [results, Tryz.results25]; go_simp) rfl ⟨kk3, v3, rfl, RD3.out⟩
              | false =>
                rw [ht, if_neg (by simp)] at hZ
                subst hZ
                have ht1 : treeOut L = [] := by simp [treeOut, ht]
                have ht2 : treeErr L = 12 := by simp [treeErr, ht]
                rw [ht1, ht2] at HT
                clear ht1 ht2 ht hxl
                go_enter Tryz.func25, Tryz.ntmps25
                go_wp2_with (first
                  | (go_at_call 45; go_loud (refine HN.out.mono ?_; rintro e w1 ⟨rfl, k1⟩; have c1 := (k1.cell (p := ⟨b0, o + NK, none⟩) hbb (by simp)).trans hc))
                  | (go_at_call 47; go_loud (refine (HH.out _ k1).mono ?_; rintro e w2 ⟨k2, r, rfl, rd2⟩; have kk2 := k1.then k2; have RD2 := Lib.hid rd2; clear rd2))
                  | (go_at_call 18; go_loud (refine (HT.out _ _ RD2.out).mono ?_; rintro e w3 ⟨v3, rfl, rd3, -, k3⟩; have kk3 := kk2.then k3; have RD3 := Lib.hid rd3; clear rd3)))
                exact bodyPost_ret (v := .tuple #[v3, .int .i64 (C2 : Int), .int .i64 12]) (by simp only [results, Tryz.results25]; go_simp) rfl ⟨kk3, by decide, v3, C2, rfl, RD3.out⟩
          · rw [if_neg hx1] at hZ
            subst hZ
            have hx11 : (x == 1) = false := by simpa using hx1
            clear hv hl hb hk hmost hn hx
            go_enter Tryz.func25, Tryz.ntmps25
            go_wp2_with (first
              | (go_at_call 45; go_loud (refine HN.out.mono ?_; rintro e w1 ⟨rfl, k1⟩; have c1 := (k1.cell (p := ⟨b0, o + NK, none⟩) hbb (by simp)).trans hc)))
            exact bodyPost_ret (v := .tuple #[.slice none 0 0, .int .i64 (k : Int), .int .i64 12]) (by simp only [results, Tryz.results25]; go_simp) rfl ⟨k1, by decide, _, k, rfl, .nil⟩
  · rw [if_pos hE] at hZ
    subst hZ
    have hE1 : (NE != 0) = true := by simpa using hE
    have hE2 : (NE == 0) = false := by simpa using hE
    have HE := Lib.hid hE
    clear hv hl hb hk hmost hE hn
    go_enter Tryz.func25, Tryz.ntmps25
    go_wp2_with (first
      | (go_at_call 45; go_loud (refine HN.out.mono ?_; rintro e w1 ⟨rfl, k1⟩)))
    exact bodyPost_ret (v := .tuple #[.slice none 0 0, .int .i64 (k : Int), .int .i64 NE]) (by simp only [results, Tryz.results25]; go_simp) rfl ⟨k1, HE.out, _, k, rfl, .nil⟩


end Go.Proofs.YtophgpnnjphnmaaGreat
