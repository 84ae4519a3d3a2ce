/-
  Walks over package spread: Positions; package states: New and the coder's functions. (Printed by mkZf.py.)
-/
import Derived.Test.YtophgpnnjphnmaaGreatQ22
import Derived.Test.YtophgpnnjphnmaaGreatQ19
namespace Go.Proofs.YtophgpnnjphnmaaGreat
set_option linter.unusedVariables false
set_option linter.unusedSimpArgs false
set_option linter.unusedSectionVars false
open Go.RowKit

/-- The places of a symbol among the first i. -/
def placesI (g : Nat) (norm : List Int) (s i : Nat) : List Nat := (List.range i).filter (fun p => placeN g norm p == s)
theorem placesI_all (g : Nat) (norm : List Int) (s : Nat) : placesI g norm s (2 ^ g) = placesOf g norm s := rfl
theorem placesI_yes {g s i : Nat} {norm : List Int} (h : placeN g norm i = s) : placesI g norm s (i + 1) = placesI g norm s i ++ [i] := by
  simp [placesI, List.range_succ, List.filter_append, h]
theorem placesI_no {g s i : Nat} {norm : List Int} (h : placeN g norm i ≠ s) : placesI g norm s (i + 1) = placesI g norm s i := by
  simp [placesI, List.range_succ, List.filter_append, h]
set_option maxRecDepth 100000 in
set_option maxHeartbeats 4000000 in
theorem positions_ok (g s : Nat) (v : Value) (norm : List Int) (w : World) (hv : RdI .i64 w v norm) (hb : ∀ x ∈ norm, -9223372036854775808 ≤ x ∧ x ≤ 9223372036854775807) (hok : TblOk g norm) (hok' : okN (g : Int) norm 256 9 = true) :
    Calls Tryz.prog 169 #[.agg #[.int .i64 (g : Int), v], .int .i64 (s : Int)] w fun e w' => ∃ a n c, e = .returned (.tuple #[.slice a n c, .int .i64 0]) ∧ n = (placesOf g norm s).length ∧ w'.ownsRow w.heap.size 3 1 (.slice a n c) n ((castL (placesOf g norm s)).map (.int .i64)) ∧ Keeps w w' [] := by
  obtain ⟨i0, hi, hz0, hz1, hz2⟩ := info_parts Tryz.infoInt
  obtain ⟨A0, m, cp0, rfl, hnl, -⟩ := hv.form
  have k0 := (Keeps.refl w []).alloc (.cells #[.int .i64 (g : Int), .slice A0 m cp0] 92)
  have b0 := Blk.new w #[.int .i64 (g : Int), .slice A0 m cp0] 92
  have HC := Lib.hid (spread_ok g _ norm _ (hv.keeps k0) hb hok hok')
  obtain ⟨hS1, hS2⟩ := hok.size
  have HPL : Hid (∀ t, t < 2 ^ g → (castL (placesL g norm))[t]? = some ((placeN g norm t : Nat) : Int)) := fun t ht => by
    have h3 := placesL_get (g := g) (p := t) (norm := norm) ht
    simp [castL, h3]
  have HALL : Hid (placesI g norm s (2 ^ g) = placesOf g norm s) := placesI_all g norm s
  obtain ⟨PO, hPO⟩ : ∃ P, placesOf g norm s = P := ⟨_, rfl⟩
  rw [hPO] at HALL ⊢
  obtain ⟨S, hSe⟩ : ∃ S, 2 ^ g = S := ⟨_, rfl⟩
  rw [hSe] at HC hS1 hS2 HPL HALL
  clear hv hnl hok' hb hok hSe hPO
  have c0 := b0.cell 0
  have c1 := b0.cell 1
  simp at c0 c1
  go_enter Tryz.func169, Tryz.ntmps169
  go_wp2_with (go_at_call 134; go_loud (refine HC.out.mono ?_; rintro e w1 ⟨O, hO, rfl, row1, k1⟩; have kk1 := k0.then k1; have ROW := Lib.hid row1; have HO := Lib.hid hO; clear row1 hO c0 c1))
  have hs1 := kk1.size
  go_loopw [8, 21] (fun s8 s21 wr => ∃ (i n c : Nat) (a : Option Addr), i ≤ S ∧ s21 = .int .i64 (i : Int) ∧ s8 = .slice a n c ∧ n ≤ i ∧ Hid (n = (placesI g norm s i).length) ∧ wr.ownsRow w1.heap.size 3 1 (.slice a n c) n ((castL (placesI g norm s i)).map (.int .i64)) ∧ Keeps w1 wr []) (fun _ s21 _ => S - (intOf s21).toNat)
  case atStart => exact ⟨0, 0, 0, none, Nat.zero_le _, rfl, rfl, Nat.le_refl _, rfl, World.ownsRow_nil _ _ _ _, Keeps.refl _ _⟩
  case round =>
    obtain ⟨i, n, c, a, hiS, rfl, rfl, hni, hn, own, kk⟩ := hrel
    by_cases hlt : i < S
    · have hiI : (i : Int) < (S : Int) := by omega
      have ci := (ROW.out.keeps kk (by simp)).at (HPL.out i hlt)
      have OW := Lib.hid own
      have KK := Lib.hid kk
      have hsr := kk.size
      by_cases hs : placeN g norm i = s
      · have HY := Lib.hid (placesI_yes hs)
        have hsI : ((placeN g norm i : Nat) : Int) = (s : Int) := by rw [hs]
        rw [hsI] at ci
        have hss : ((s : Int) == (s : Int)) = true := by simp
        clear own kk hs hsI
        have OW1 : Hid (wr.ownsRow w1.heap.size 3 1 (.slice a n c) n ((castL (placesI g norm s i)).map (.int .i64))) := OW
        go_wp2_with (at_builtin; go_loud (refine wpList_app1I (w := wr) rfl _ _ 22 rfl w1.heap.size i0 Tryz.underlying22 hi hz0 hz1 hz2 (.slice a n c) n (castL (placesI g norm s i)) (i : Int) _ rfl rfl (by simp) OW1.out (by omega) (by omega) ?_; intro a6 c6 w6 own6 k6; have OW6 := Lib.hid own6; have K6 := Lib.hid k6; clear own6 k6))
        go_roundw
        case rel =>
          refine ⟨i + 1, n + 1, c6, a6, by omega, by go_num, rfl, by omega, ?_, ?_, keeps_row KK.out K6.out (fun g hg => (OW.out.lt g hg).1)⟩
          · show _ = _
            rw [HY.out, List.length_append, List.length_singleton, ← hn.out]
          · rw [HY.out]
            have h := OW6.out
            simpa [castL] using h
        case measure => simp [intOf]; omega
      · have HY := Lib.hid (placesI_no hs)
        have hsI : (((placeN g norm i : Nat) : Int) == (s : Int)) = false := by simp; omega
        have hsN : (placeN g norm i == s) = false := by simpa using hs
        obtain ⟨y, hy⟩ : ∃ y, placeN g norm i = y := ⟨_, rfl⟩
        rw [hy] at ci hsI hsN
        clear own kk hs hy
        go_wp2_with fail
        go_roundw
        case rel => exact ⟨i + 1, n, c, a, by omega, by go_num, rfl, by omega, by show _ = _; rw [HY.out]; exact hn.out, by rw [HY.out]; exact OW.out, KK.out⟩
        case measure => simp [intOf]; omega
    · obtain rfl : i = S := by omega
      have hii : decide ((i : Int) < (i : Int)) = false := by simp
      have OW := Lib.hid own
      have KK := Lib.hid kk
      clear own kk
      go_wp2_with fail
      go_ret2
      exact ⟨a, n, c, rfl, by rw [← HALL.out]; exact hn.out, by rw [← HALL.out]; exact own_base OW.out hs1, kk1.then KK.out⟩

theorem own_diff {w : World} {b1 b2 s1 s2 n1 n2 : Nat} {e1 e2 : TypeId} {v1 v2 : Value} {xs1 xs2 : List Value} (h1 : w.ownsRow b1 e1 s1 v1 n1 xs1) (h2 : w.ownsRow b2 e2 s2 v2 n2 xs2) (he : e1 ≠ e2) : ∀ x y, v1.ownBlock = some x → v2.ownBlock = some y → x ≠ y := by
  intro x y hx hy e
  rcases h1.2 with ⟨rfl, -⟩ | ⟨g1, cap1, cur1, rfl, -, hg1, -⟩
  · cases hx
  · rcases h2.2 with ⟨rfl, -⟩ | ⟨g2, cap2, cur2, rfl, -, hg2, -⟩
    · cases hy
    · have e1' : g1 = x := by simpa [Value.ownBlock] using hx
      have e2' : g2 = y := by simpa [Value.ownBlock] using hy
      rw [e1', e, ← e2', hg2] at hg1
      simp at hg1
      exact he hg1.2.symm
theorem own_blkne {w : World} {b size n Q : Nat} {e T : TypeId} {v : Value} {xs : List Value} {cs : Array Value} (own : w.ownsRow b e size v n xs) (hb : Blk w Q cs T) (he : e ≠ T) : ∀ x, v.ownBlock = some x → x ≠ Q := by
  intro x hx e'
  rcases own.2 with ⟨rfl, -⟩ | ⟨g, cap, cur, rfl, -, hg, -⟩
  · cases hx
  · have hgQ : g = x := by simpa [Value.ownBlock] using hx
    have h : w.heap[Q]? = some (.cells cs T (0, 0)) := hb
    rw [hgQ, e', h] at hg
    simp at hg
    exact he hg.2.symm

theorem Tryz.infoInts : (Tryz.prog.info? 22).map (fun i => (i.zero, i.size, i.bytes)) = some (some (.slice none 0 0), 1, 24) := by kernel_rfl
theorem own_newsV {w : World} {b : Nat} {v : Value} {T : TypeId} (h : Blk w b #[v] T) : ∀ (j : Nat) (u : Value), [v][j]? = some u → w.cell? (Addr.add ⟨b, 0, none⟩ j) = some u := fun j u hj => by
  cases j with
  | zero =>
    obtain rfl : v = u := by simpa using hj
    exact h.cell 0
  | succ j => simp at hj
/-- append of one value of a cell, just laid, to a slice of the call's own. -/
theorem wpList_app1W {P : Program} {w : World} {ops : Array Oper} {rest : List Oper} {o : Oper} {a : Act} {Q : Exit → Act → World → Prop} (hg : o.guard = none) (s x : Operand) (t : TypeId)
    (ho : o.op = .call { callee := .builtin .append, args := #[s, x], argTypes := #[t, t] })
    (base : Nat) (e : TypeId) (i : TypeInfo) (z : Value) (bytes : Nat) (ht : P.underlying t = some (.slice e)) (hi : P.info? e = some i) (hz : i.zero = some z) (hsize : i.size = 1) (hby : i.bytes = bytes) (hzs : z.cells.size = 1)
    (v : Value) (n : Nat) (L : List Value) (y : Value) (hy : y.oneCell' = true) (B : Nat) (hs : a.eval s = v) (hx : a.eval x = .slice (some ⟨B, 0, none⟩) 1 1) (hB : w.heap.size = B)
    (hown : w.ownsRow base e 1 v n L) (h63 : n + 1 ≤ maxLen) (hbytes : (n + 1) * bytes ≤ 140737488355328) (hbase : base ≤ w.heap.size)
    (h : ∀ a' c' w', w'.ownsRow base e 1 (.slice a' (n + 1) c') (n + 1) (L ++ [y]) → Keeps w w' (match v.ownBlock with | some g => [g] | none => []) → wpList P ops Q rest (a.put o.dst (.slice a' (n + 1) c')) w') :
    wpList P ops Q (o :: rest) a (w.alloc (.cells #[y] e)) := by
  subst hB
  refine wpList_append_own _ hg s x t ho base _ i z 1 bytes ht hi hz hsize hby hzs (by decide) v n L hs (own_keeps hown ((Keeps.refl w []).alloc _)) _ 1 1 [y] hx rfl (own_newsV (Blk.new w _ _)) (by simpa using hy) h63 (by omega) (by simp; omega) ?_
  intro v3 w3 h3 g3 _
  obtain ⟨a3, c3, rfl⟩ := own_form h3
  exact h a3 c3 w3 h3 (((Keeps.refl w _).alloc _).trans (Keeps.of_grown g3 (fun k hk => by rw [hk]; simp)) (fun j hj _ => hj))

/-- A coder of a table: its cells and the places of each symbol; all of it lies ahead of top. -/
structure CodS (w : World) (C g : Nat) (norm : List Int) (top : Nat) : Prop where
  form : ∃ (ca : Option Addr) (cc pb pc : Nat) (vs : List Value), Blk w C #[.slice ca (2 ^ g) cc, .slice (some ⟨pb, 0, none⟩) norm.length pc] 214 ∧ RdW rowC 3 w (.slice ca (2 ^ g) cc) (cellsL g norm (2 ^ g)) ∧ (∀ ad, ca = some ad → ad.block < top) ∧ pb < top ∧ norm.length ≤ pc ∧
    (∀ s v, vs[s]? = some v → w.cell? ⟨pb, s, none⟩ = some v) ∧ ∀ s, s < norm.length → ∃ a n c, vs[s]? = some (.slice a n c) ∧ n = (placesOf g norm s).length ∧ RdI .i64 w (.slice a n c) (castL (placesOf g norm s)) ∧ ∀ ad, a = some ad → ad.block < top
  lt : C < top
  top : top ≤ w.heap.size
theorem CodS.keeps {w w' : World} {C g top : Nat} {norm : List Int} {S : List Nat} (h : CodS w C g norm top) (k : Keeps w w' S) (hS : ∀ x ∈ S, top ≤ x) : CodS w' C g norm top := by
  obtain ⟨ca, cc, pb, pc, vs, h1, h2, h3, h4, h5, h6, h7⟩ := h.form
  have hl := h.lt
  have ht := h.top
  refine ⟨⟨ca, cc, pb, pc, vs, h1.keeps k (fun hm => by have := hS _ hm; omega), h2.keeps k (fun ad nn cp he _ hm => by cases he; have := h3 _ rfl; have := hS _ hm; omega), h3, h4, h5, fun s v hv => (k.cell (p := ⟨pb, s, none⟩) (by simp only; omega) (fun hm => by have := hS _ hm; simp only at this; omega)).trans (h6 s v hv), fun s hs => ?_⟩, hl, Nat.le_trans ht k.size⟩
  obtain ⟨a, n, c, g1, g2, g3, g4⟩ := h7 s hs
  exact ⟨a, n, c, g1, g2, g3.keepsS k (fun ad n' c' he _ hm => by cases he; have := g4 _ rfl; have := hS _ hm; omega), g4⟩

/-- The places of the first i symbols. -/
def SubR (w : World) (g : Nat) (norm : List Int) (vs : List Value) (i : Nat) : Prop := ∀ s, s < i → ∃ a n c, vs[s]? = some (.slice a n c) ∧ n = (placesOf g norm s).length ∧ w.ownsRow 0 3 1 (.slice a n c) n ((castL (placesOf g norm s)).map (.int .i64))
theorem SubR.keeps {w w' : World} {g i : Nat} {norm : List Int} {vs : List Value} {S : List Nat} (h : SubR w g norm vs i) (k : Keeps w w' S) (hS : ∀ x ∈ S, ∀ a n c xs, w.ownsRow 0 3 1 (.slice a n c) n xs → (Value.slice a n c).ownBlock ≠ some x) : SubR w' g norm vs i := fun s hs => by
  obtain ⟨a, n, c, h1, h2, h3⟩ := h s hs
  exact ⟨a, n, c, h1, h2, own_old h3 k (fun x hx hm => hS x hm a n c _ h3 hx)⟩

set_option maxRecDepth 100000 in
set_option maxHeartbeats 4000000 in
theorem snew_ok (g : Nat) (v : Value) (norm : List Int) (w : World) (hv : RdI .i64 w v norm) (hb : ∀ x ∈ norm, -9223372036854775808 ≤ x ∧ x ≤ 9223372036854775807) (hok : TblOk g norm) (hok' : okN (g : Int) norm 256 9 = true) :
    Calls Tryz.prog 148 #[.agg #[.int .i64 (g : Int), v]] w fun e w' => ∃ C, e = .returned (.tuple #[.pointer (some ⟨C, 0, none⟩), .int .i64 0]) ∧ w.heap.size ≤ C ∧ CodS w' C g norm w'.heap.size ∧ Keeps w w' [] := by
  obtain ⟨i0, hi, hz0, hz1, hz2⟩ := info_parts Tryz.infoInts
  obtain ⟨A0, m, cp0, rfl, hnl, -⟩ := hv.form
  have k0 := (Keeps.refl w []).alloc (.cells #[.int .i64 (g : Int), .slice A0 m cp0] 92)
  have b0 := Blk.new w #[.int .i64 (g : Int), .slice A0 m cp0] 92
  have HC := Lib.hid (build_ok g _ norm _ (hv.keeps k0) hb hok hok')
  have HPO := Lib.hid (fun s W (k : Keeps w W []) => positions_ok g s _ norm W (hv.keeps k) hb hok hok')
  have hm256 : m ≤ 256 := by have := hok.len; omega
  have hpos := hok.pos
  have HNL := Lib.hid hnl
  have c0 := b0.cell 0
  have c1 := b0.cell 1
  simp at c0 c1
  obtain ⟨S, hSe⟩ : ∃ S, 2 ^ g = S := ⟨_, rfl⟩
  rw [hSe] at HC
  have HSE := Lib.hid hSe
  clear hv hnl hok' hb hok hSe
  go_enter Tryz.func148, Tryz.ntmps148
  go_wp2_with (go_at_call 106; go_loud (refine HC.out.mono ?_; rintro e w1 ⟨ca, cc, rfl, own1, k1⟩; have b1 := b0.keeps k1 (by simp); have kk1 := k0.then k1; have hw1 := b1.lt; have OW1 := Lib.hid own1; have bC := Blk.new w1 #[.slice ca S cc, .slice none 0 0] 214; have b2 := b1.alloc (.cells #[.slice ca S cc, .slice none 0 0] 214); have kk2 := kk1.alloc (.cells #[.slice ca S cc, .slice none 0 0] 214); clear c0 c1 own1; have c0 := b2.cell 0; have c1 := b2.cell 1; simp at c0 c1))
  have hlS : (cellsL g norm S).length = S := cellsL_len g norm S
  have rc : RdW rowC 3 w1 (.slice ca S cc) (cellsL g norm S) := ownW_reads rowC_len (by rw [hlS]; exact OW1.out)
  have HCB : Hid (∀ ad, ca = some ad → ad.block < w1.heap.size) := fun ad he => by subst he; exact (OW1.out.lt ad.block rfl).2
  have rc2 := rc.keep ((Keeps.refl w1 []).alloc (.cells #[.slice ca S cc, .slice none 0 0] 214))
  obtain ⟨C, hC⟩ : ∃ C, w1.heap.size = C := ⟨_, rfl⟩
  have hsz : C + 1 = (w1.alloc (.cells #[.slice ca S cc, .slice none 0 0] 214)).heap.size := by simp [hC]
  rw [hC] at bC HCB hw1 ⊢
  generalize (w1.alloc (.cells #[.slice ca S cc, .slice none 0 0] 214)) = W0 at *
  have HR0 := Lib.hid (show _ ∧ _ ∧ _ ∧ _ from ⟨bC, b2, kk2, rc2⟩)
  have hwC : w.heap.size ≤ C := by omega
  clear b0 b1 k0 k1 kk1 OW1 rc rc2 hlS bC b2 kk2 c0 c1 HC hC
  go_loopw [24] (fun s24 wr => ∃ (i pc : Nat) (pa : Option Addr) (vs : List Value), s24 = .int .i64 (i : Int) ∧ i ≤ m ∧ vs.length = i ∧ Blk wr C #[.slice ca S cc, .slice pa i pc] 214 ∧ wr.ownsRow (C + 1) 22 1 (.slice pa i pc) i vs ∧ SubR wr g norm vs i ∧ Blk wr w.heap.size #[.int .i64 (g : Int), .slice A0 m cp0] 92 ∧ Keeps w wr [] ∧ RdW rowC 3 wr (.slice ca S cc) (cellsL g norm S) ∧ C + 1 ≤ wr.heap.size) (fun s24 _ => m - (intOf s24).toNat)
  case atStart =>
    obtain ⟨x1, x2, x3, x4⟩ := HR0.out
    exact ⟨0, 0, none, [], rfl, Nat.zero_le _, rfl, x1, World.ownsRow_nil _ _ _ _, fun s hs => by omega, x2, x3, x4, by omega⟩
  case round =>
    clear HR0 hsz
    obtain ⟨i, pc, pa, vs, rfl, him, hvl, bC, own, sub, bT, kk, rc, hsz⟩ := hrel
    by_cases hlt : i < m
    · have hiI : (i : Int) < (m : Int) := by omega
      have HCALL := Lib.hid (HPO.out i wr kk)
      have c0 := bT.cell 0
      have c1 := bT.cell 1
      simp at c0 c1
      have BC := Lib.hid bC
      have OW := Lib.hid own
      have SB := Lib.hid sub
      have HX := Lib.hid (show _ ∧ _ ∧ _ ∧ _ from ⟨bT, kk, rc, hvl⟩)
      have Y8 := Lib.hid (young own)
      clear bC own sub bT kk rc hvl
      go_wp2_with (first
        | (go_at_call 169; go_loud (refine HCALL.out.mono ?_; rintro e w3 ⟨a, n, c, rfl, hn, own3, k3⟩; have OW3 := Lib.hid own3; have HN := Lib.hid hn; have K3 := Lib.hid k3; have bC3 := BC.out.keeps k3 (by simp); have d1 := bC3.cell 1; have f1 := bC3.frozen 1; simp at d1; have hbl3 := bC3.lt; have hs3 := k3.size; have OWP3 := Lib.hid (own_keeps OW.out k3); have SB3 := Lib.hid (SB.out.keeps k3 (fun x hx => by cases hx)); have BC3 := Lib.hid bC3; clear own3 hn k3 bC3))
        | (at_builtin; go_loud (refine wpList_app1W (w := w3) rfl _ _ 212 rfl (C + 1) 22 i0 (.slice none 0 0) 24 Tryz.underlying212 hi hz0 hz1 hz2 rfl (.slice pa i pc) i vs (.slice a n c) rfl _ rfl rfl rfl OWP3.out (by unfold maxLen; omega) (by omega) (by omega) ?_; intro a6 c6 w6 own6 k6; have NC : C ∉ (match (Value.slice pa i pc).ownBlock with | some g => [g] | none => []) := (fun hm => by have := Y8.out _ hm; omega); have bC6 := BC3.out.keeps k6 NC; have f1 := bC6.frozen 1; have d1 := bC6.cell 1; simp at d1; have hbl6 := bC6.lt; have BC6 := Lib.hid bC6; have OW6 := Lib.hid own6; have K6 := Lib.hid k6; have hs6 := k6.size; clear own6 k6 bC6 NC)))
      have kset : Keeps w6 (w6.setCell ⟨C, 1, none⟩ (.slice a6 (i + 1) c6)) [C] := (Keeps.refl w6 _).setCell (.inr (by simp)) _
      have b7 : Blk (w6.setCell ⟨C, 1, none⟩ (.slice a6 (i + 1) c6)) C #[.slice ca S cc, .slice a6 (i + 1) c6] 214 := by
        have := BC6.out.set 1 (.slice a6 (i + 1) c6)
        simpa using this
      have hsub6 : SubR w6 g norm vs i := SB3.out.keeps K6.out (fun x hx a' n' c' xs ho he => by
        cases hob : (Value.slice pa i pc).ownBlock with
        | none => rw [hob] at hx; cases hx
        | some y =>
          rw [hob] at hx
          have := List.mem_singleton.1 hx
          exact own_diff ho OWP3.out (by decide) x y he hob this)
      have hown6 : w6.ownsRow 0 3 1 (.slice a n c) n ((castL (placesOf g norm i)).map (.int .i64)) := own_old (own_base OW3.out (Nat.zero_le _)) K6.out (fun x hx hm => by
        cases hob : (Value.slice pa i pc).ownBlock with
        | none => rw [hob] at hm; cases hm
        | some y =>
          rw [hob] at hm
          exact own_diff OW3.out OWP3.out (by decide) x y hx hob (List.mem_singleton.1 hm))
      have hsub7 : SubR (w6.setCell ⟨C, 1, none⟩ (.slice a6 (i + 1) c6)) g norm (vs ++ [.slice a n c]) (i + 1) := by
        obtain ⟨-, -, -, hvl⟩ := HX.out
        intro s hs
        by_cases hsi : s < i
        · obtain ⟨a', n', c', g1, g2, g3⟩ := hsub6 s hsi
          exact ⟨a', n', c', by rw [List.getElem?_append_left (by omega)]; exact g1, g2, own_old g3 kset (fun x hx hm => own_blkne g3 BC6.out (by decide) x hx (List.mem_singleton.1 hm))⟩
        · obtain rfl : s = i := by omega
          exact ⟨a, n, c, by rw [List.getElem?_append_right (by omega), hvl, Nat.sub_self]; rfl, HN.out, own_old hown6 kset (fun x hx hm => own_blkne hown6 BC6.out (by decide) x hx (List.mem_singleton.1 hm))⟩
      have HKY : Hid (∀ x, x < C + 1 → x ∉ (match (Value.slice pa i pc).ownBlock with | some g => [g] | none => [])) := fun x hx hm => by have := Y8.out x hm; omega
      go_roundw
      case rel =>
        obtain ⟨bT, kk, rc, hvl⟩ := HX.out
        refine ⟨i + 1, c6, a6, vs ++ [.slice a n c], by go_num, by omega, by rw [List.length_append, List.length_singleton, hvl], b7, own_old OW6.out kset (fun x hx hm => by have := List.mem_singleton.1 hm; have := (OW6.out.lt x hx).1; omega), hsub7, ((bT.keeps K3.out (by simp)).keeps K6.out (HKY.out _ (by omega))).keeps kset (by simp; omega), ((kk.then K3.out).trans K6.out (fun j hj hl => by have := Y8.out j hj; omega)).trans kset (fun j hj hl => by have := List.mem_singleton.1 hj; omega), ?_, by have := kset.size; omega⟩
        exact ((rc.keep K3.out).keeps K6.out (fun ad nn cp he _ hm => by cases he; have := HCB.out _ rfl; exact HKY.out _ (by (try simp only); omega) hm)).keeps kset (fun ad nn cp he _ hm => by cases he; have := HCB.out _ rfl; have := List.mem_singleton.1 hm; (try simp only at this); omega)
      case measure => simp [intOf]; omega
    · obtain rfl : i = m := by omega
      have hii : decide ((i : Int) < (i : Int)) = false := by simp
      have HF : Hid (CodS wr C g norm wr.heap.size) := Lib.hid (by
        obtain ⟨pb, hpa, hpbC, hpbl⟩ : ∃ pb, pa = some ⟨pb, 0, none⟩ ∧ C + 1 ≤ pb ∧ pb < wr.heap.size := by
          rcases own.2 with ⟨h1, h2⟩ | ⟨gg, cp, cur, h1, h2, -⟩
          · have := HNL.out; omega
          · cases h1
            exact ⟨gg, rfl, h2, (own.lt gg rfl).2⟩
        subst hpa
        have hn := HNL.out
        have hS := HSE.out
        subst hn
        refine ⟨⟨ca, cc, pb, pc, vs, by rw [hS]; exact bC, by rw [hS]; exact rc, fun ad he => by have := HCB.out ad he; omega, hpbl, ?_, fun s v hv => ?_, fun s hs => ?_⟩, by omega, Nat.le_refl _⟩
        · rcases own.2 with ⟨h1, h2⟩ | ⟨gg, cp, cur, h1, h2, h3, h4, -⟩
          · omega
          · cases h1; exact h4
        · have hsl : s < vs.length := (List.getElem?_eq_some_iff.1 hv).1
          rw [own.cellAt s (by omega), hv]
        · obtain ⟨a, n, c, g1, g2, g3⟩ := sub s hs
          refine ⟨a, n, c, g1, g2, ?_, fun ad he => by subst he; exact (g3.lt ad.block rfl).2⟩
          have hl : (castL (placesOf g norm s)).length = n := by rw [castL_len]; exact g2.symm
          rw [← hl] at g3 ⊢
          exact own_reads g3)
      have KK := Lib.hid kk
      clear bC own sub bT kk rc hvl
      go_wp2_with fail
      go_ret2
      exact ⟨C, rfl, hwC, HF.out, KK.out⟩


end Go.Proofs.YtophgpnnjphnmaaGreat
