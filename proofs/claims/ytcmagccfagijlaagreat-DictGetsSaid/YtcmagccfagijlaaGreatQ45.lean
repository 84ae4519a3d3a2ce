/-
  A description is read back by the plain law of the decoders, whatever follows. (No walk is done here.)
  A varint is read back from its bytes, whatever stands around it. (No walk is done here.)
  Counts turned into norms, in plain words; and that the norms are a valid table. (No program in sight.)
  Walks over package norm: all, the closures of Normalize, furthest. (Printed by mkZi.py.)
  A flow written, in plain words: the places of a symbol, the state ahead of a state, the bits of a row of symbols; and that it is read back. (No walk is done here.)
  Walk over package norm: Normalize. (Printed by mkZj.py.)
  Walks over package bitout: hold.add, hold.whole, Writer.Put.
  Walks over package bitout: Bytes, Close. (Printed by mkZc.py.)
  Walks over package desc: number, put, Encode. (Printed by mkZd.py.)
  The states and bits of a flow, taken from the last symbol to the first, in plain words. (No walk is done here.)
  A description in format 1, in plain words: the counts, the table, the bytes; and that it is read back, whatever follows; so is one in format 0. (No walk is done here.)
  Walks over package spread: Positions; package states: New and the coder's functions. (Printed by mkZf.py.)
  Walks over package states: none, of, state, Log, Lowest, Predecessor. (Printed by mkZg.py.)
  flow.Encode where the table is valid and all symbols have states. (Printed by mkZn.py.)
  Walks over package weights: coded (a description in format 1).
  The tree of weights is a tree. No program is in sight here.
  The tree that the weights of a tree give is that tree, without zeros at its end. (No walk is done here.)
  Walks over package weights: described at format 1, EncodeCoded, Encode.
  Walks over package weights: Encode. (Printed by mkYf.py.)
  Walks over the reference of package dict: sameInts, whether equal or not.
  Walks over the reference of package dict: the tables' Same, whether equal or not.
  Walks over the reference of package dict: Same, whether equal or not.
  Walks over package dict: plain, table, Valid, whether valid or not. (Printed by mkEe.py.)
  Plain: a valid dictionary is read back from its bytes; what is read is a valid dictionary. No program in sight.
  The law on decoding dictionaries: its walk.
  The law on decoding dictionaries: for every input it returns true and its argument reads as it read before.
-/
import Derived.Test.YtcmagccfagijlaaGreatQ4
import Derived.Test.YtcmagccfagijlaaGreatQ20
import Derived.Test.YtcmagccfagijlaaGreatQ30
import Derived.Test.YtcmagccfagijlaaGreatQ2
import Derived.Test.YtcmagccfagijlaaGreatQ17
import Derived.Test.YtcmagccfagijlaaGreatQ27
import Derived.Test.YtcmagccfagijlaaGreatQ25
import Derived.Test.YtcmagccfagijlaaGreatQ3
import Derived.Test.YtcmagccfagijlaaGreatQ26
import Derived.Test.YtcmagccfagijlaaGreatQ1
import Derived.Test.YtcmagccfagijlaaGreatQ16
import Derived.Deep.LoopGhost
import Derived.Test.YtcmagccfagijlaaGreatQ39
import Derived.Test.YtcmagccfagijlaaGreatQ21
import Derived.Test.YtcmagccfagijlaaGreatQ5
import Derived.Test.YtcmagccfagijlaaGreatQ35
import Derived.Test.YtcmagccfagijlaaGreatQ11
import Derived.Test.YtcmagccfagijlaaGreatQ12
import Derived.Test.YtcmagccfagijlaaGreatQ43
import Derived.Test.YtcmagccfagijlaaGreatQ44
namespace Go.Proofs.YtcmagccfagijlaaGreat
section
set_option linter.unusedVariables false
set_option linter.unusedSimpArgs false
end

section
set_option linter.unusedVariables false
set_option linter.unusedSimpArgs false
end

section
set_option linter.unusedVariables false
set_option linter.unusedSimpArgs false

def sumZ : List Int → Int
  | [] => 0
  | x :: l => x + sumZ l
theorem sumZ_set : ∀ (l : List Int) (b : Nat) (x : Int), b < l.length → sumZ (l.set b x) = sumZ l - l.getD b 0 + x
  | [], b, x, h => by simp at h
  | y :: l, 0, x, _ => by simp only [List.set_cons_zero, sumZ, List.getD_cons_zero]; omega
  | y :: l, b + 1, x, h => by
    have := sumZ_set l b x (by simpa using h)
    simp only [List.set_cons_succ, sumZ, List.getD_cons_succ, this]
    omega
theorem getD_set (l : List Int) (b i : Nat) (x : Int) (h : b < l.length) : (l.set b x).getD i 0 = if i = b then x else l.getD i 0 := by
  rw [List.getD_eq_getElem?_getD, List.getD_eq_getElem?_getD, List.getElem?_set]
  by_cases hi : b = i
  · subst hi
    rw [if_pos rfl, if_pos rfl, if_pos h]; rfl
  · rw [if_neg hi, if_neg (fun e => hi e.symm)]
end

section
set_option linter.unusedVariables false
set_option linter.unusedSimpArgs false
set_option linter.unusedSectionVars false
open Go.RowKit

/-! The closures. -/
end

section
set_option linter.unusedVariables false
set_option linter.unusedSimpArgs false

/-- The places of a symbol, in order. -/
def placesOf (g : Nat) (norm : List Int) (s : Nat) : List Nat := (List.range (2 ^ g)).filter (fun p => placeN g norm p == s)
end

section
set_option linter.unusedVariables false
set_option linter.unusedSimpArgs false
set_option linter.unusedSectionVars false
open Go.RowKit

/-- What lies in memory while Normalize runs. -/
structure NMem (w0 w : World) (b2 b6 n : Nat) (v : Value) (C N : List Int) (S T : Int) : Prop where
  c2 : Blk w b2 #[v] 25
  c4 : Blk w (b2 + 1) #[.int .i64 0, .slice none 0 0] 27
  c6 : Blk w b6 #[.int .i64 T] 3
  c9 : Blk w (b6 + 1) #[.int .i64 S] 3
  row : RowI w (b6 + 2) n n N
  c10 : Blk w (b6 + 3) #[.slice (some ⟨b6 + 2, 0, none⟩) n n] 25
  rd : RdI .i64 w v C
  kk : Keeps w0 w []
  old : ∀ ad m c, v = .slice (some ad) m c → 0 < m → ad.block < b2
  b2e : w0.heap.size = b2
  lt : b2 + 1 < b6
theorem NMem.size {w0 w : World} {b2 b6 n : Nat} {v : Value} {C N : List Int} {S T : Int} (h : NMem w0 w b2 b6 n v C N S T) : b6 + 4 ≤ w.heap.size := h.c10.lt
theorem NMem.keeps {w0 w w' : World} {b2 b6 n : Nat} {v : Value} {C N : List Int} {S T : Int} {X : List Nat} (h : NMem w0 w b2 b6 n v C N S T) (k : Keeps w w' X) (hX : ∀ x ∈ X, b6 + 4 ≤ x) : NMem w0 w' b2 b6 n v C N S T := by
  have hl := h.lt
  have hn : ∀ y, y < b6 + 4 → y ∉ X := fun y hy hm => by have := hX y hm; omega
  exact ⟨h.c2.keeps k (hn _ (by omega)), h.c4.keeps k (hn _ (by omega)), h.c6.keeps k (hn _ (by omega)), h.c9.keeps k (hn _ (by omega)), h.row.keeps k (hn _ (by omega)), h.c10.keeps k (hn _ (by omega)), h.rd.keepsS k (fun ad m c e h0 => hn _ (by have := h.old ad m c e h0; omega)), h.kk.trans k (fun j hj hlt => by have := hX j hj; have := h.b2e; omega), h.old, h.b2e, hl⟩
theorem NMem.set {w0 w : World} {b2 b6 n : Nat} {v : Value} {C N : List Int} {S T : Int} (h : NMem w0 w b2 b6 n v C N S T) (i : Nat) (x : Int) : NMem w0 (w.setCell ⟨b6 + 2, i, none⟩ (.int .i64 x)) b2 b6 n v C (N.set i x) S T := by
  have hl := h.lt
  have k : Keeps w (w.setCell ⟨b6 + 2, i, none⟩ (.int .i64 x)) [b6 + 2] := (Keeps.refl w _).setCell (.inr (by simp)) _
  have hn : ∀ y, y ≠ b6 + 2 → y ∉ [b6 + 2] := fun y hy hm => hy (List.mem_singleton.1 hm)
  exact ⟨h.c2.keeps k (hn _ (by omega)), h.c4.keeps k (hn _ (by omega)), h.c6.keeps k (hn _ (by omega)), h.c9.keeps k (hn _ (by omega)), h.row.set i x, h.c10.keeps k (hn _ (by omega)), h.rd.keepsS k (fun ad m c e h0 => hn _ (by have := h.old ad m c e h0; omega)), h.kk.trans k (fun j hj hlt => by have := List.mem_singleton.1 hj; have := h.b2e; omega), h.old, h.b2e, hl⟩
end

section
set_option linter.unusedVariables false
set_option linter.unusedSimpArgs false
set_option linter.unusedSectionVars false
open Go.RowKit

/-- Of the old blocks none but Q has changed, and rows of bytes at base or beyond. -/
def KQB (Q base : Nat) (w w' : World) : Prop := ∃ S, Keeps w w' S ∧ ∀ x ∈ S, x = Q ∨ (base ≤ x ∧ (w.heap.size ≤ x ∨ ∃ cs z, w.heap[x]? = some (.cells cs 5 z)))
theorem KQB.refl (Q base : Nat) (w : World) : KQB Q base w w := ⟨[], Keeps.refl w [], fun x h => by cases h⟩
theorem KQB.of {Q base : Nat} {w w' : World} {S : List Nat} (h : Keeps w w' S) (hS : ∀ x ∈ S, x = Q ∨ (base ≤ x ∧ (w.heap.size ≤ x ∨ ∃ cs z, w.heap[x]? = some (.cells cs 5 z)))) : KQB Q base w w' := ⟨S, h, hS⟩
theorem KQB.old {Q base : Nat} {w w' : World} (h : KQB Q base w w') : ∃ S, Keeps w w' S ∧ ∀ x ∈ S, x = Q ∨ base ≤ x := by
  obtain ⟨S, h1, h2⟩ := h
  exact ⟨S, h1, fun x hx => (h2 x hx).imp id (fun h => h.1)⟩
theorem KQB.trans {Q base : Nat} {w w' w'' : World} (h : KQB Q base w w') (k : KQB Q base w' w'') : KQB Q base w w'' := by
  obtain ⟨S, h1, h2⟩ := h
  obtain ⟨S', k1, k2⟩ := k
  refine ⟨S ++ S', (h1.mono (fun x hx => List.mem_append.2 (.inl hx))).trans (k1.mono (fun x hx => List.mem_append.2 (.inr hx))) (fun x hx _ => hx), fun x hx => ?_⟩
  by_cases hS : x ∈ S
  · exact h2 x hS
  · rcases List.mem_append.1 hx with h | h
    · exact h2 x h
    · rcases k2 x h with h | ⟨hb, h⟩
      · exact .inl h
      · by_cases hl : x < w.heap.size
        · rcases h with h | ⟨cs, z, h⟩
          · have := h1.size; omega
          · exact .inr ⟨hb, .inr ⟨cs, z, (h1.block x hl hS).symm.trans h⟩⟩
        · exact .inr ⟨hb, .inl (by omega)⟩
theorem KQB.then {Q base : Nat} {w w' w'' : World} (h : KQB Q base w w') (k : Keeps w' w'' []) : KQB Q base w w'' := h.trans ⟨[], k, fun x hx => by cases hx⟩
theorem KQB.size {Q base : Nat} {w w' : World} (h : KQB Q base w w') : w.heap.size ≤ w'.heap.size := by obtain ⟨S, h1, -⟩ := h; exact h1.size
theorem KQB.heap {Q base b : Nat} {w w' : World} {o : Obj} (h : KQB Q base w w') (hb : w.heap[b]? = some o) (h1 : b ≠ Q) (h2 : ∀ cs z, o ≠ .cells cs 5 z) : w'.heap[b]? = some o := by
  obtain ⟨S, h3, h4⟩ := h
  refine (h3.block b (Array.getElem?_eq_some_iff.1 hb).1 (fun hm => ?_)).trans hb
  rcases h4 b hm with h | ⟨-, h | ⟨cs', z, h⟩⟩
  · exact h1 h
  · have := (Array.getElem?_eq_some_iff.1 hb).1; omega
  · rw [hb] at h
    injection h with h
    exact h2 _ _ h
theorem KQB.blk {Q base b : Nat} {w w' : World} {cs : Array Value} {T : TypeId} (h : KQB Q base w w') (hb : Blk w b cs T) (h1 : b ≠ Q) (h2 : b < base) : Blk w' b cs T := by
  obtain ⟨S, h3, h4⟩ := h.old
  exact hb.keeps h3 (fun hm => by rcases h4 b hm with h | h <;> omega)
theorem KQB.low {Q base : Nat} {w0 w w' : World} (h : KQB Q base w w') (k : Keeps w0 w []) (h1 : w0.heap.size ≤ Q) (h2 : w0.heap.size ≤ base) : Keeps w0 w' [] := by
  obtain ⟨S, h3, h4⟩ := h.old
  exact k.trans h3 (fun x hx hl => by rcases h4 x hx with h | h <;> omega)
theorem KQB.rd {Q base : Nat} {k : IntKind} {w w' : World} {v : Value} {l : List Int} (h : KQB Q base w w') (hv : RdI k w v l) (h1 : ∀ ad n c, v = .slice (some ad) n c → 0 < n → ad.block ≠ Q ∧ ad.block < base) : RdI k w' v l := by
  obtain ⟨S, h3, h4⟩ := h.old
  exact hv.keepsS h3 (fun ad n c e h0 hm => by have := h1 ad n c e h0; rcases h4 _ hm with h | h <;> omega)
theorem KQB.cell {Q base : Nat} {w w' : World} {p : Addr} (h : KQB Q base w w') (hp : p.block < w.heap.size) (h1 : p.block ≠ Q) (h2 : p.block < base) : w'.cell? p = w.cell? p := by
  obtain ⟨S, h3, h4⟩ := h.old
  exact h3.cell hp (fun hm => by rcases h4 _ hm with h | h <;> omega)
theorem KQB.mono {Q base base' : Nat} {w w' : World} (h : KQB Q base w w') (hb : base' ≤ base) : KQB Q base' w w' := by
  obtain ⟨S, h3, h4⟩ := h
  exact ⟨S, h3, fun x hx => (h4 x hx).imp id (fun h => ⟨by omega, h.2⟩)⟩

/-- A writer at block Q that holds the bits L, n of them not yet laid as bytes; its bytes lie at base or beyond. -/
structure HW (w : World) (base Q : Nat) (L : List Bool) (n : Nat) : Prop where
  form : ∃ (a : Option Addr) (c N : Nat) (BL : List Int) (v : Nat), Blk w Q #[.int .u64 (v : Int), .int .i64 (n : Int), .slice a N c] 187 ∧ w.ownsRow base 5 1 (.slice a N c) N (BL.map (.int .u8)) ∧ N = BL.length ∧ v < 2 ^ n ∧ (∀ x ∈ BL, 0 ≤ x ∧ x ≤ 255) ∧ L = rowBits BL ++ bitsN v n
  base : base ≤ w.heap.size
  small : n ≤ 40
  len : L.length ≤ 8000000
def WR (w : World) (base Q : Nat) (L : List Bool) : Prop := ∃ n, n < 8 ∧ HW w base Q L n

theorem HW.lt {w : World} {base Q n : Nat} {L : List Bool} (h : HW w base Q L n) : Q < w.heap.size := by obtain ⟨a, c, N, BL, v, hb, -⟩ := h.form; exact hb.lt
/-- A writer stays as it is where neither it nor what lies at base or beyond is touched. -/
theorem HW.keeps {w w' : World} {base Q n : Nat} {L : List Bool} {S : List Nat} (h : HW w base Q L n) (k : Keeps w w' S) (h1 : Q ∉ S) (h2 : ∀ x ∈ S, x < base) : HW w' base Q L n := by
  obtain ⟨a, c, N, BL, v, hb, own, hN, hv, hB, hL⟩ := h.form
  exact ⟨⟨a, c, N, BL, v, hb.keeps k h1, own_old own k (fun x hx hm => by have := h2 x hm; have := (own.lt x hx).1; omega), hN, hv, hB, hL⟩, Nat.le_trans h.base k.size, h.small, h.len⟩
theorem HW.keeps0 {w w' : World} {base Q n : Nat} {L : List Bool} (h : HW w base Q L n) (k : Keeps w w' []) : HW w' base Q L n := h.keeps k (by simp) (fun x hx => by cases hx)
theorem WR.keeps {w w' : World} {base Q : Nat} {L : List Bool} {S : List Nat} (h : WR w base Q L) (k : Keeps w w' S) (h1 : Q ∉ S) (h2 : ∀ x ∈ S, x < base) : WR w' base Q L := by
  obtain ⟨n, hn, h⟩ := h
  exact ⟨n, hn, h.keeps k h1 h2⟩
theorem WR.keeps0 {w w' : World} {base Q : Nat} {L : List Bool} (h : WR w base Q L) (k : Keeps w w' []) : WR w' base Q L := h.keeps k (by simp) (fun x hx => by cases hx)
theorem WR.lt {w : World} {base Q : Nat} {L : List Bool} (h : WR w base Q L) : Q < w.heap.size ∧ base ≤ w.heap.size := by obtain ⟨n, -, h⟩ := h; exact ⟨h.lt, h.base⟩
/-- A writer that is new. -/
theorem WR.new {w : World} {base Q : Nat} (hb : Blk w Q #[.int .u64 0, .int .i64 0, .slice none 0 0] 187) (h2 : base ≤ w.heap.size) : WR w base Q [] :=
  ⟨0, by omega, ⟨⟨none, 0, 0, [], 0, hb, World.ownsRow_nil _ _ _ _, rfl, by decide, by simp, rfl⟩, h2, by omega, by simp⟩⟩
end

section
set_option linter.unusedVariables false
set_option linter.unusedSimpArgs false
set_option linter.unusedSectionVars false
open Go.RowKit
end

section
set_option linter.unusedVariables false
set_option linter.unusedSimpArgs false
set_option linter.unusedSectionVars false
open Go.RowKit
end

section
set_option linter.unusedVariables false
set_option linter.unusedSimpArgs false
end

section
set_option linter.unusedVariables false
set_option linter.unusedSimpArgs false

/-- One more of c. -/
def upC (h : List Int) (c : Int) : List Int := h.set c.toNat (h.getD c.toNat 0 + 1)
theorem upC_len (h : List Int) (c : Int) : (upC h c).length = h.length := by simp [upC]
theorem upC_get (h : List Int) (c : Int) (i : Nat) (hc : c.toNat < h.length) : (upC h c).getD i 0 = if i = c.toNat then h.getD c.toNat 0 + 1 else h.getD i 0 := by
  unfold upC
  rw [getD_set _ _ _ _ hc]
theorem upC_sum (h : List Int) (c : Int) (hc : c.toNat < h.length) : sumZ (upC h c) = sumZ h + 1 := by
  unfold upC
  rw [sumZ_set _ _ _ hc]
  omega
/-- A row of counts. -/
structure CntOk (h : List Int) (n : Nat) : Prop where
  len : h.length = 12
  low : ∀ i, 0 ≤ h.getD i 0
  sum : sumZ h = (n : Int)
theorem CntOk.up {h : List Int} {n : Nat} (k : CntOk h n) {c : Int} (h0 : 0 ≤ c) (h1 : c ≤ 11) : CntOk (upC h c) (n + 1) := by
  have hc : c.toNat < h.length := by rw [k.len]; omega
  refine ⟨by rw [upC_len, k.len], fun i => ?_, by rw [upC_sum _ _ hc, k.sum]; omega⟩
  rw [upC_get _ _ _ hc]
  have a := k.low c.toNat
  have b := k.low i
  split <;> omega
theorem CntOk.zero : CntOk (List.replicate 12 0) 0 := ⟨by simp, fun i => by
  rw [List.getD_eq_getElem?_getD, List.getElem?_replicate]
  split <;> simp, by decide⟩
end

section
set_option linter.unusedVariables false
set_option linter.unusedSimpArgs false
set_option linter.unusedSectionVars false
open Go.RowKit

/-- A coder of a table: its cells and the places of each symbol; all of it lies ahead of top. -/
structure CodS (w : World) (C g : Nat) (norm : List Int) (top : Nat) : Prop where
  form : ∃ (ca : Option Addr) (cc pb pc : Nat) (vs : List Value), Blk w C #[.slice ca (2 ^ g) cc, .slice (some ⟨pb, 0, none⟩) norm.length pc] 263 ∧ RdW rowC 3 w (.slice ca (2 ^ g) cc) (cellsL g norm (2 ^ g)) ∧ (∀ ad, ca = some ad → ad.block < top) ∧ pb < top ∧ norm.length ≤ pc ∧
    (∀ s v, vs[s]? = some v → w.cell? ⟨pb, s, none⟩ = some v) ∧ ∀ s, s < norm.length → ∃ a n c, vs[s]? = some (.slice a n c) ∧ n = (placesOf g norm s).length ∧ RdI .i64 w (.slice a n c) (castL (placesOf g norm s)) ∧ ∀ ad, a = some ad → ad.block < top
  lt : C < top
  top : top ≤ w.heap.size
theorem CodS.keeps {w w' : World} {C g top : Nat} {norm : List Int} {S : List Nat} (h : CodS w C g norm top) (k : Keeps w w' S) (hS : ∀ x ∈ S, top ≤ x) : CodS w' C g norm top := by
  obtain ⟨ca, cc, pb, pc, vs, h1, h2, h3, h4, h5, h6, h7⟩ := h.form
  have hl := h.lt
  have ht := h.top
  refine ⟨⟨ca, cc, pb, pc, vs, h1.keeps k (fun hm => by have := hS _ hm; omega), h2.keeps k (fun ad nn cp he _ hm => by cases he; have := h3 _ rfl; have := hS _ hm; omega), h3, h4, h5, fun s v hv => (k.cell (p := ⟨pb, s, none⟩) (by simp only; omega) (fun hm => by have := hS _ hm; simp only at this; omega)).trans (h6 s v hv), fun s hs => ?_⟩, hl, Nat.le_trans ht k.size⟩
  obtain ⟨a, n, c, g1, g2, g3, g4⟩ := h7 s hs
  exact ⟨a, n, c, g1, g2, g3.keepsS k (fun ad n' c' he _ hm => by cases he; have := g4 _ rfl; have := hS _ hm; omega), g4⟩

/-- The places of the first i symbols. -/
def SubR (w : World) (g : Nat) (norm : List Int) (vs : List Value) (i : Nat) : Prop := ∀ s, s < i → ∃ a n c, vs[s]? = some (.slice a n c) ∧ n = (placesOf g norm s).length ∧ w.ownsRow 0 3 1 (.slice a n c) n ((castL (placesOf g norm s)).map (.int .i64))
theorem SubR.keeps {w w' : World} {g i : Nat} {norm : List Int} {vs : List Value} {S : List Nat} (h : SubR w g norm vs i) (k : Keeps w w' S) (hS : ∀ x ∈ S, ∀ a n c xs, w.ownsRow 0 3 1 (.slice a n c) n xs → (Value.slice a n c).ownBlock ≠ some x) : SubR w' g norm vs i := fun s hs => by
  obtain ⟨a, n, c, h1, h2, h3⟩ := h s hs
  exact ⟨a, n, c, h1, h2, own_old h3 k (fun x hx hm => hS x hm a n c _ h3 hx)⟩
end

section
set_option linter.unusedVariables false
set_option linter.unusedSimpArgs false
set_option linter.unusedSectionVars false
open Go.RowKit
end

section
set_option linter.unusedVariables false
set_option linter.unusedSimpArgs false
set_option linter.unusedSectionVars false
open Go.RowKit

attribute [local go_sem] Oper.semAt_some

/-- What Encode's variables hold when the symbols from i on are taken. -/
structure EncI (w : World) (M C g : Nat) (norm : List Int) (sv : Value) (l : List Nat) (x y : Nat) (W : World) : Prop where
  b3 : Blk W (w.heap.size + 1) #[sv] 25
  b4 : Blk W (w.heap.size + 2) #[.slice none 0 0] 22
  b5 : Blk W (w.heap.size + 3) #[.int .i64 0] 33
  b6 : Blk W M #[.pointer (some ⟨C, 0, none⟩)] 243
  b7 : Blk W (M + 1) #[.int .i64 0] 33
  b8 : Blk W (M + 3) #[.pointer (some ⟨M + 2, 0, none⟩)] 143
  b9 : Blk W (M + 4) #[.int .i64 (x : Nat), .int .i64 (y : Nat)] 232
  cod : CodS W C g norm M
  rd : RdI .i64 W sv (castL l)
  old : ∀ ad n c, sv = .slice (some ad) n c → 0 < n → ad.block < w.heap.size
  lo : w.heap.size + 4 ≤ M
  kk : Keeps w W []
theorem EncI.keeps {w W W' : World} {M C g x y : Nat} {norm : List Int} {sv : Value} {l : List Nat} {S : List Nat} (h : EncI w M C g norm sv l x y W) (k : Keeps W W' S) (hS : ∀ b ∈ S, b = M + 2 ∨ M + 5 ≤ b) : EncI w M C g norm sv l x y W' := by
  have hn : ∀ b, b < M + 5 → b ≠ M + 2 → b ∉ S := fun b h1 h2 hm => by rcases hS b hm with h | h <;> omega
  have hl := h.lo
  exact ⟨h.b3.keeps k (hn _ (by omega) (by omega)), h.b4.keeps k (hn _ (by omega) (by omega)), h.b5.keeps k (hn _ (by omega) (by omega)), h.b6.keeps k (hn _ (by omega) (by omega)), h.b7.keeps k (hn _ (by omega) (by omega)), h.b8.keeps k (hn _ (by omega) (by omega)), h.b9.keeps k (hn _ (by omega) (by omega)),
    h.cod.keeps k (fun b hb => by rcases hS b hb with h | h <;> omega), h.rd.keepsS k (fun ad n c e h0 hm => by have := h.old ad n c e h0; rcases hS _ hm with h | h <;> omega), h.old, hl, h.kk.trans k (fun b hb hlt => by rcases hS b hb with h | h <;> omega)⟩
/-- The two states are written. -/
theorem EncI.put {w W W' : World} {M C g x y x' y' : Nat} {norm : List Int} {sv : Value} {l : List Nat} (h : EncI w M C g norm sv l x y W) (k : Keeps W W' [M + 4]) (hb : Blk W' (M + 4) #[.int .i64 (x' : Nat), .int .i64 (y' : Nat)] 232) : EncI w M C g norm sv l x' y' W' := by
  have hl := h.lo
  exact ⟨h.b3.keeps k (by simp; omega), h.b4.keeps k (by simp; omega), h.b5.keeps k (by simp; omega), h.b6.keeps k (by simp), h.b7.keeps k (by simp), h.b8.keeps k (by simp), hb,
    h.cod.keeps k (fun b hb => by have := List.mem_singleton.1 hb; omega), h.rd.keepsS k (fun ad n c e h0 hm => by have := h.old ad n c e h0; have := List.mem_singleton.1 hm; omega), h.old, hl, h.kk.trans k (fun b hb hlt => by have := List.mem_singleton.1 hb; omega)⟩
/-- The error is written: it is what it was. -/
theorem EncI.err {w W : World} {M C g x y : Nat} {norm : List Int} {sv : Value} {l : List Nat} (h : EncI w M C g norm sv l x y W) : EncI w M C g norm sv l x y (W.setCell ⟨M + 1, 0, none⟩ (.int .i64 0)) := by
  have hl := h.lo
  have k : Keeps W (W.setCell ⟨M + 1, 0, none⟩ (.int .i64 0)) [M + 1] := (Keeps.refl W _).setCell (.inr (by simp)) _
  have h7 := h.b7.set 0 (.int .i64 0)
  exact ⟨h.b3.keeps k (by simp; omega), h.b4.keeps k (by simp; omega), h.b5.keeps k (by simp; omega), h.b6.keeps k (by simp), by simpa using h7, h.b8.keeps k (by simp), h.b9.keeps k (by simp),
    h.cod.keeps k (fun b hb => by have := List.mem_singleton.1 hb; omega), h.rd.keepsS k (fun ad n c e h0 hm => by have := h.old ad n c e h0; have := List.mem_singleton.1 hm; omega), h.old, hl, h.kk.trans k (fun b hb hlt => by have := List.mem_singleton.1 hb; omega)⟩
/-- The writer's row lies in none of the blocks X. -/
def RowOut (W : World) (Q : Nat) (X : List Nat) : Prop := ∀ v0 v1 ad n c, Blk W Q #[v0, v1, .slice (some ad) n c] 187 → ad.block ∉ X
theorem RowOut.keeps {W W' : World} {Q : Nat} {X S : List Nat} (h : RowOut W Q X) (k : Keeps W W' S) (hq : Q < W.heap.size) (h1 : Q ∉ S) : RowOut W' Q X := fun v0 v1 ad n c hb => h v0 v1 ad n c ((k.block Q hq h1).symm.trans hb)
/-- The writer, new or not. -/
def WrN (W : World) (base Q : Nat) (L : List Bool) : Prop := (L = [] ∧ Blk W Q #[.int .u64 0, .int .i64 0, .slice none 0 0] 187) ∨ WR W base Q L
theorem WrN.wr {W : World} {base Q : Nat} {L : List Bool} (h : WrN W base Q L) (hb : base ≤ W.heap.size) : WR W base Q L := by
  rcases h with ⟨rfl, h⟩ | h
  · exact .new h hb
  · exact h
theorem WrN.keeps {W W' : World} {base Q : Nat} {L : List Bool} {S : List Nat} (h : WrN W base Q L) (k : Keeps W W' S) (h1 : Q ∉ S) (h2 : ∀ x ∈ S, x < base) : WrN W' base Q L := by
  rcases h with ⟨rfl, h⟩ | h
  · exact .inl ⟨rfl, h.keeps k h1⟩
  · exact .inr (h.keeps k h1 h2)
end

section
set_option linter.unusedVariables false
set_option linter.unusedSimpArgs false
set_option linter.unusedSectionVars false
open Go.RowKit

/-- What coded's variables hold. -/
structure CMem (w W : World) (n cp : Nat) (A0 : Option Addr) (l h : List Int) : Prop where
  b1 : Blk W w.heap.size #[.slice A0 n cp] 25
  row : RowI W (w.heap.size + 1) 12 12 h
  rd : RdI .i64 W (.slice A0 n cp) l
  kk : Keeps w W []
theorem CMem.keeps {w W W' : World} {n cp : Nat} {A0 : Option Addr} {l h : List Int} (m : CMem w W n cp A0 l h) (k : Keeps W W' []) : CMem w W' n cp A0 l h :=
  ⟨m.b1.keeps k (by simp), m.row.keeps k (by simp), m.rd.keeps k, m.kk.then k⟩
theorem CMem.set {w W : World} {n cp : Nat} {A0 : Option Addr} {l h : List Int} (m : CMem w W n cp A0 l h) (ho : ∀ ad m c, (Value.slice A0 n cp) = .slice (some ad) m c → 0 < m → ad.block < w.heap.size) (i : Nat) (x : Int) : CMem w (W.setCell ⟨w.heap.size + 1, i, none⟩ (.int .i64 x)) n cp A0 l (h.set i x) := by
  have k : Keeps W (W.setCell ⟨w.heap.size + 1, i, none⟩ (.int .i64 x)) [w.heap.size + 1] := (Keeps.refl W _).setCell (.inr (by simp)) _
  exact ⟨m.b1.keeps k (by simp), m.row.set i x, m.rd.keepsS k (fun ad mm c e h0 hm => by have := ho ad mm c e h0; have := List.mem_singleton.1 hm; omega), m.kk.trans k (fun j hj hl => by have := List.mem_singleton.1 hj; omega)⟩
end

section
set_option linter.unusedVariables false
set_option linter.unusedSimpArgs false
open Go.RowKit

theorem sumW_mem {l : List Int} {x : Int} (h : x ∈ l) (h0 : 0 < x) : 2 ^ (x.toNat - 1) ≤ sumW l := by
  induction l with
  | nil => cases h
  | cons y l ih =>
    rcases List.mem_cons.1 h with rfl | h
    · simp only [sumW, if_pos h0]; omega
    · have := ih h; simp only [sumW]; omega
theorem sumW_some {l : List Int} (h : 0 < sumW l) : ∃ x ∈ l, 0 < x := by
  induction l with
  | nil => simp [sumW] at h
  | cons y l ih =>
    by_cases hy : 0 < y
    · exact ⟨y, by simp, hy⟩
    · simp only [sumW, if_neg hy, Nat.zero_add] at h
      obtain ⟨x, hx, h0⟩ := ih h
      exact ⟨x, by simp [hx], h0⟩
theorem sum11_tr {k : Nat} (hk : k ≤ 11) : ∀ (m : List Int), (∀ x ∈ m, x ≤ k) → sum11 (trL k m) = 2 ^ (11 - k) * sumW m
  | [], _ => by simp [trL, sum11, sumW]
  | x :: m, h => by
    have ih := sum11_tr hk m (fun y hy => h y (by simp [hy]))
    have hx := h x (by simp)
    simp only [trL] at ih
    simp only [trL, List.map_cons, sum11, sumW, ih, Nat.mul_add]
    congr 1
    by_cases h0 : 0 < x
    · have e1 : wgt k x = k + 1 - x := if_pos h0
      rw [e1, if_pos (by omega), if_pos h0, ← Nat.pow_add]
      congr 1
      omega
    · have e1 : wgt k x = 0 := if_neg h0
      rw [e1, if_neg (by omega), if_neg h0, Nat.mul_zero]

theorem tOf_len (l : List Int) : (tOf l).length = l.length + 1 := by simp [tOf, trL]
theorem tree_of_ok {l : List Int} (h : okW l = true) : treeL (tOf l) = true := by
  simp only [okW, Bool.and_eq_true, decide_eq_true_eq] at h
  obtain ⟨⟨⟨h1, h2⟩, h3, h4, h5⟩, -⟩ := h
  obtain ⟨s1, s2, s3, s4, s5, s6, s7, s8, s9⟩ := sums h1 h2
  have hl : l.length < 256 := by simp [lenW] at h1; exact h1.2
  have hx : ∀ x ∈ l, 0 ≤ x ∧ x ≤ kW l := fun x hx => by
    have hb := finM_iff.1 (List.all_eq_true.1 h2 x hx)
    refine ⟨hb.1, ?_⟩
    by_cases h0 : 0 < x
    · have := sumW_mem hx h0
      have h7 : 2 ^ (x.toNat - 1) < 2 ^ kW l := by omega
      have := (Nat.pow_lt_pow_iff_right (by decide : 1 < 2)).1 h7
      omega
    · omega
  have hv : vW l ≤ kW l := by
    have h7 : 2 ^ (vW l - 1) < 2 ^ kW l := by omega
    have := (Nat.pow_lt_pow_iff_right (by decide : 1 < 2)).1 h7
    omega
  have hall : ∀ x ∈ l ++ [(vW l : Int)], 0 ≤ x ∧ x ≤ kW l := fun x hm => by
    rcases List.mem_append.1 hm with hm | hm
    · exact hx x hm
    · have := List.mem_singleton.1 hm; omega
  rw [treeL_iff]
  refine ⟨by rw [tOf_len]; omega, ?_, ?_, ?_⟩
  · intro y hy
    obtain ⟨x, hm, rfl⟩ := List.mem_map.1 hy
    have := hall x hm
    unfold wgt
    split <;> omega
  · obtain ⟨x, hm, h0⟩ := sumW_some h3
    have hp : 0 < (usedL (trL (kW l) l)).length := usedL_pos.2 ⟨wgt (kW l) x, List.mem_map.2 ⟨x, hm, rfl⟩, by
      have := hx x hm
      unfold wgt
      rw [if_pos h0]; omega⟩
    have e : tOf l = trL (kW l) l ++ [wgt (kW l) (vW l)] := by simp [tOf, trL]
    rw [e, usedL_snoc, if_pos (by unfold wgt; rw [if_pos (by omega)]; omega), List.length_append]
    simp only [List.length_singleton]
    omega
  · show sum11 (trL (kW l) (l ++ [(vW l : Int)])) = 2048
    rw [sum11_tr h4 _ (fun x hm => (hall x hm).2), sumW_snoc, if_pos (by omega)]
    have e : sumW l + 2 ^ ((vW l : Int).toNat - 1) = 2 ^ kW l := by
      rw [Int.toNat_natCast, ← h5]; omega
    rw [e, ← Nat.pow_add, show 11 - kW l + kW l = 11 by omega]
end

section
set_option linter.unusedVariables false
set_option linter.unusedSimpArgs false
open Go.RowKit
end

section
set_option linter.unusedVariables false
set_option linter.unusedSimpArgs false
set_option linter.unusedSectionVars false
open Go.RowKit
end

section
set_option linter.unusedVariables false
set_option linter.unusedSimpArgs false
set_option linter.unusedSectionVars false
open Go.RowKit
end

section
set_option linter.unusedVariables false
set_option linter.unusedSimpArgs false
set_option linter.unusedSectionVars false
open Go.RowKit
end

section
set_option linter.unusedVariables false
set_option linter.unusedSimpArgs false
set_option linter.unusedSectionVars false
open Go.RowKit
end

section
set_option linter.unusedVariables false
set_option linter.unusedSimpArgs false
set_option linter.unusedSectionVars false
open Go.RowKit
end

section
set_option linter.unusedVariables false
set_option linter.unusedSimpArgs false
set_option linter.unusedSectionVars false
open Go.RowKit

/-- A table of a full dictionary is valid. -/
def tblB (g : Int) (l : List Int) (sy lg : Int) : Bool := decide (0 < g) && okN g l sy lg
/-- A repeat offset reaches behind what stands there. -/
def badR (n x : Int) : Bool := decide (x < 1) || decide (n < x)
/-- A raw dictionary is valid (contents are short here). -/
def rawB (T L1 L2 L3 : List Int) (g1 g2 g3 a b c : Int) (X : List Int) : Bool := decide (T.length = 0) && (decide (g1 = 0 ∧ L1 = []) && (decide (g2 = 0 ∧ L2 = []) && (decide (g3 = 0 ∧ L3 = []) && (decide (a = 1 ∧ b = 4 ∧ c = 8) && !markB X))))
/-- A full one. -/
def fullB (T L1 L2 L3 : List Int) (g1 g2 g3 a b c : Int) (X : List Int) : Bool := treeL T && (!decide (T.getD (T.length - 1) 0 = 0) && (tblB g2 L2 28 8 && (tblB g3 L3 44 9 && (tblB g1 L1 44 9 && (decide (8 ≤ (X.length : Int)) && !([a, b, c].any (badR X.length)))))))
def validB (id : Int) (T L1 L2 L3 : List Int) (g1 g2 g3 a b c : Int) (X : List Int) : Bool := if id = 0 then rawB T L1 L2 L3 g1 g2 g3 a b c X else fullB T L1 L2 L3 g1 g2 g3 a b c X

section
variable {P : Program} {md : Region.Mode} {os : List Oper} {Q : Exit → Act → World → Prop} {S : World → Prop}
end
end

section
set_option linter.unusedVariables false
set_option linter.unusedSimpArgs false
open Go.RowKit

def vD (D : DD) : Bool := validB D.id D.T D.L1 D.L2 D.L3 D.g1 D.g2 D.g3 D.a D.b D.c D.X

theorem tblB_iff {g : Int} {L : List Int} {sy lg : Int} : tblB g L sy lg = true ↔ 0 < g ∧ g ≤ lg ∧ 0 < L.length ∧ (L.length : Int) ≤ sy ∧ L.getD (L.length - 1) 0 ≠ 0 ∧ (∀ n ∈ L, -1 ≤ n) ∧ sumN L = 2 ^ g.toNat := by
  unfold tblB okN
  rw [Bool.and_eq_true, decide_eq_true_eq, decide_eq_true_eq]
  constructor
  · rintro ⟨h1, -, h2⟩; exact ⟨h1, h2⟩
  · rintro ⟨h1, h2⟩; exact ⟨h1, by omega, h2⟩
/-- What a valid full dictionary is. -/
theorem vD_full {D : DD} (hid : D.id ≠ 0) : vD D = true ↔ treeL D.T = true ∧ D.T.getD (D.T.length - 1) 0 ≠ 0 ∧ tblB D.g2 D.L2 28 8 = true ∧ tblB D.g3 D.L3 44 9 = true ∧ tblB D.g1 D.L1 44 9 = true ∧ 8 ≤ D.X.length ∧ (1 ≤ D.a ∧ D.a ≤ D.X.length) ∧ (1 ≤ D.b ∧ D.b ≤ D.X.length) ∧ (1 ≤ D.c ∧ D.c ≤ D.X.length) := by
  have e : ∀ y : Int, badR D.X.length y = false ↔ 1 ≤ y ∧ y ≤ D.X.length := fun y => by
    unfold badR
    rw [Bool.or_eq_false_iff, decide_eq_false_iff_not, decide_eq_false_iff_not]
    omega
  unfold vD validB fullB
  rw [if_neg hid]
  simp only [Bool.and_eq_true, Bool.not_eq_true', decide_eq_true_eq, decide_eq_false_iff_not, List.any_cons, List.any_nil, Bool.or_false, Bool.or_eq_false_iff, e]
  constructor
  · rintro ⟨h1, h2, h3, h4, h5, h6, h7⟩
    exact ⟨h1, h2, h3, h4, h5, by omega, h7⟩
  · rintro ⟨h1, h2, h3, h4, h5, h6, h7⟩
    exact ⟨h1, h2, h3, h4, h5, by omega, h7⟩
theorem vD_raw {D : DD} (hid : D.id = 0) : vD D = true ↔ D.T = [] ∧ (D.g1 = 0 ∧ D.L1 = []) ∧ (D.g2 = 0 ∧ D.L2 = []) ∧ (D.g3 = 0 ∧ D.L3 = []) ∧ (D.a = 1 ∧ D.b = 4 ∧ D.c = 8) ∧ markB D.X = false := by
  unfold vD validB rawB
  rw [if_pos hid]
  simp only [Bool.and_eq_true, Bool.not_eq_true', decide_eq_true_eq, List.length_eq_zero_iff]

/-! What is read is valid. -/
theorem zerosP_zeros {symbols : Nat} : ∀ {f : Nat} {L R : List Bool} {out o : List Int}, zerosP symbols f L out = .ok (o, R) → ∃ j, o = out ++ List.replicate j 0 := by
  intro f
  induction f with
  | zero => intro L R out o h; cases h
  | succ f ih =>
    intro L R out o h
    unfold zerosP at h
    split at h
    · cases h
    cases hk : tk L 2 with
    | error e => rw [hk] at h; cases h
    | ok x =>
      obtain ⟨k, L1⟩ := x
      rw [hk] at h
      simp only at h
      split at h
      · obtain ⟨j, hj⟩ := ih h
        exact ⟨k + j, by rw [hj, List.append_assoc, List.replicate_append_replicate]⟩
      · cases h; exact ⟨k, rfl⟩
theorem sumN_zeros : ∀ j : Nat, sumN (List.replicate j 0) = 0
  | 0 => rfl
  | j + 1 => by rw [List.replicate_succ, sumN, sumN_zeros j]; rfl
theorem normsP_valid {symbols : Nat} {S : Int} : ∀ {f : Nat} {L R : List Bool} {left : Nat} {out o : List Int} {ran : Bool}, normsP symbols f L left out ran = .ok (o, R) → (∀ n ∈ out, -1 ≤ n) → (left : Int) + sumN out = S → (left = 0 → 0 < out.length ∧ out.length ≤ symbols ∧ out.getD (out.length - 1) 0 ≠ 0) →
    0 < o.length ∧ o.length ≤ symbols ∧ o.getD (o.length - 1) 0 ≠ 0 ∧ (∀ n ∈ o, -1 ≤ n) ∧ sumN o = S := by
  intro f
  induction f with
  | zero => intro L R left out o ran h; cases h
  | succ f ih =>
    intro L R left out o ran h hlow hs h0
    unfold normsP at h
    split at h
    · rename_i hl
      cases h
      obtain ⟨a1, a2, a3⟩ := h0 hl
      exact ⟨a1, a2, a3, hlow, by omega⟩
    rename_i hl
    split at h
    · cases h
    rename_i hsy
    cases hk : numP L (left + 2) with
    | error e => rw [hk] at h; cases h
    | ok x =>
      obtain ⟨v, L1⟩ := x
      have hv := (numP_lt (by omega) hk).1
      rw [hk] at h
      simp only at h
      split at h
      · cases h
      split at h
      · rename_i hv1
        subst hv1
        cases hz : zerosP symbols (symbols + 1) L1 (out ++ [((1 : Nat) : Int) - 1]) with
        | error e => rw [hz] at h; cases h
        | ok y =>
          obtain ⟨o2, L2⟩ := y
          rw [hz] at h
          obtain ⟨j, hj⟩ := zerosP_zeros hz
          refine ih h ?_ ?_ (fun h9 => absurd h9 hl)
          · intro n hn
            rw [hj] at hn
            simp only [List.mem_append, List.mem_singleton] at hn
            rcases hn with (hn | hn) | hn
            · exact hlow n hn
            · omega
            · have := List.eq_of_mem_replicate hn; omega
          · rw [hj, sumN_append, sumN_append, sumN_zeros]
            simp only [sumN, stN]
            omega
      · rename_i hv1
        have hst : stN ((v : Int) - 1) = ((if v = 0 then 1 else v - 1 : Nat) : Int) := by
          unfold stN
          by_cases h9 : v = 0
          · subst h9; simp
          · rw [if_neg (by omega), if_neg h9]; omega
        refine ih h ?_ ?_ ?_
        · intro n hn
          simp only [List.mem_append, List.mem_singleton] at hn
          rcases hn with hn | hn
          · exact hlow n hn
          · omega
        · rw [sumN_append]
          simp only [sumN]
          rw [hst]
          split <;> omega
        · intro h9
          simp only [List.length_append, List.length_singleton]
          refine ⟨by omega, by omega, ?_⟩
          rw [Nat.add_sub_cancel, List.getD_eq_getElem?_getD, List.getElem?_append_right (Nat.le_refl _), Nat.sub_self]
          simp
          omega
theorem descP_valid {D : List Int} {sy g nb : Nat} {lg : Int} {L : List Int} (h : descP D sy lg = .ok (g, L, nb)) : tblB (g : Int) L (sy : Int) lg = true := by
  unfold descP tabP at h
  cases ht : tk (rowBits D) 4 with
  | error e => rw [ht] at h; cases h
  | ok x =>
    obtain ⟨n, L1⟩ := x
    rw [ht] at h
    simp only at h
    by_cases hb : lg < (n : Int) + 1 ∨ 8 < n
    · rw [if_pos hb] at h; cases h
    · rw [if_neg hb] at h
      cases hn : normsP sy (sy + 1) L1 (2 ^ (n + 1)) [] false with
      | error e => rw [hn] at h; cases h
      | ok y =>
        obtain ⟨l, L2⟩ := y
        have hp : 0 < 2 ^ (n + 1) := Nat.pow_pos (by decide)
        obtain ⟨v1, v2, v3, v4, v5⟩ := normsP_valid (S := ((2 ^ (n + 1) : Nat) : Int)) hn (by simp) (by simp [sumN]) (fun h9 => by omega)
        rw [hn] at h
        simp only [tabOf] at h
        split at h
        · cases h
          rw [tblB_iff]
          refine ⟨by omega, by omega, v1, by omega, v3, v4, ?_⟩
          rw [v5]
          simp
        · cases h
theorem tOf_last {l : List Int} (h : okW l = true) : (tOf l).getD ((tOf l).length - 1) 0 ≠ 0 := by
  simp only [okW, Bool.and_eq_true, decide_eq_true_eq] at h
  obtain ⟨⟨⟨h1, h2⟩, h3, h4, h5⟩, -⟩ := h
  obtain ⟨s1, s2, s3, s4, s5, s6, s7, s8, s9⟩ := sums h1 h2
  have hv : vW l ≤ kW l := by
    have h7 : 2 ^ (vW l - 1) < 2 ^ kW l := by omega
    have := (Nat.pow_lt_pow_iff_right (by decide : 1 < 2)).1 h7
    omega
  have e : tOf l = trL (kW l) l ++ [wgt (kW l) (vW l)] := by simp [tOf, trL]
  rw [e, List.length_append, List.length_singleton, Nat.add_sub_cancel, List.getD_eq_getElem?_getD, List.getElem?_append_right (Nat.le_refl _), Nat.sub_self]
  simp only [List.getElem?_cons_zero, Option.getD_some]
  unfold wgt
  rw [if_pos (by omega)]
  omega
theorem getW_valid {B T : List Int} {k K : Nat} (h : getW B k = .ok (T, K)) : treeL T = true ∧ T.getD (T.length - 1) 0 ≠ 0 := by
  have fin : ∀ {L : List Int} {K' : Nat}, finW L K' = .ok (T, K) → treeL T = true ∧ T.getD (T.length - 1) 0 ≠ 0 := fun {L K'} hf => by
    unfold finW at hf
    split at hf
    · rename_i ho
      cases hf
      exact ⟨tree_of_ok ho, tOf_last ho⟩
    · cases hf
  unfold getW at h
  split at h
  · cases h
  split at h
  · cases h
  split at h
  · cases h
  split at h
  · split at h
    · cases h
    · exact fin h
  split at h
  · split at h
    · cases h
    · exact fin h
  · cases h
theorem repR_valid {B : List Int} {k x k' : Nat} (h : repR B k = .ok (x, k')) : 1 ≤ x ∧ x ≤ 134217728 := by
  unfold repR at h
  split at h
  · cases h
  split at h
  · cases h
  · cases h; omega
theorem contR_valid {B : List Int} {k k' : Nat} {l : List Nat} (h : contR B 3 k [] = .ok (l, k')) : ∃ x y z : Nat, l = [x, y, z] ∧ 1 ≤ x ∧ 1 ≤ y ∧ 1 ≤ z := by
  unfold contR at h
  rcases h1 : repR B k with n | ⟨x, k1⟩
  · rw [h1] at h; cases h
  rw [h1] at h
  simp only at h
  unfold contR at h
  rcases h2 : repR B k1 with n | ⟨y, k2⟩
  · rw [h2] at h; cases h
  rw [h2] at h
  simp only at h
  unfold contR at h
  rcases h3 : repR B k2 with n | ⟨z, k3⟩
  · rw [h3] at h; cases h
  rw [h3] at h
  simp only at h
  unfold contR at h
  cases h
  exact ⟨x, y, z, rfl, (repR_valid h1).1, (repR_valid h2).1, (repR_valid h3).1⟩
theorem conR_valid {B X : List Int} {k K : Nat} {a b c : Int} (h : conR B k a b c = .ok (X, K)) : 8 ≤ X.length ∧ a ≤ X.length ∧ b ≤ X.length ∧ c ≤ X.length ∧ ∀ x ∈ X, x ∈ B := by
  unfold conR at h
  split at h
  · cases h
  split at h
  · cases h
  rename_i h2
  split at h
  · cases h
  rename_i h3
  have h3' : bytesE B (numK B k 134217728) (numX B k 134217728 : Nat) = 0 := by simpa using h3
  cases h
  have hl : (bytesX B (numK B k 134217728) (numX B k 134217728 : Nat)).length = numX B k 134217728 ∧ ∀ x ∈ bytesX B (numK B k 134217728) (numX B k 134217728 : Nat), x ∈ B := by
    obtain ⟨N, hN⟩ : ∃ N, numX B k 134217728 = N := ⟨_, rfl⟩
    rw [hN] at h3' ⊢
    unfold bytesX
    rw [if_pos h3']
    refine ⟨?_, fun x hx => List.mem_of_mem_drop (List.mem_of_mem_take hx)⟩
    unfold bytesE at h3'
    split at h3'
    · cases h3'
    split at h3'
    · cases h3'
    simp
    omega
  rw [hl.1]
  have ha := mxL_ge (l := [a, b, c]) (x := a) (by simp)
  have hb := mxL_ge (l := [a, b, c]) (x := b) (by simp)
  have hc := mxL_ge (l := [a, b, c]) (x := c) (by simp)
  exact ⟨by omega, by omega, by omega, by omega, hl.2⟩
theorem pow256 {m : Nat} (h : m ≤ 4) : (256 : Int) ^ m ≤ 4294967296 := by
  have hc : m = 0 ∨ m = 1 ∨ m = 2 ∨ m = 3 ∨ m = 4 := by omega
  rcases hc with rfl | rfl | rfl | rfl | rfl <;> decide
/-- What is known of a dictionary that was read. -/
structure GotOk (B : List Int) (D : DD) : Prop where
  valid : vD D = true
  id0 : 0 ≤ D.id
  id1 : D.id < 4294967296
  len : D.X.length ≤ B.length
  mem : ∀ x ∈ D.X, x ∈ B
theorem getD_valid {B : List Int} {D : DD} {k : Nat} (hb : ∀ x ∈ B, 0 ≤ x ∧ x ≤ 255) (h : getD B k = .ok D) : GotOk B D ∧ D.id ≠ 0 := by
  unfold getD at h
  split at h
  · cases h
  rename_i h1
  split at h
  · cases h
  rename_i hid
  have hw : 0 ≤ wordL (bytesX B k 4) ∧ wordL (bytesX B k 4) < 4294967296 := by
    have hx : ∀ x ∈ bytesX B k 4, 0 ≤ x ∧ x ≤ 255 := fun x hx => by
      unfold bytesX at hx
      split at hx
      · exact hb x (List.mem_of_mem_drop (List.mem_of_mem_take hx))
      · cases hx
    have hl : (bytesX B k 4).length ≤ 4 := by
      unfold bytesX
      split
      · simp; omega
      · simp
    have h2 := wordP_bound hx (bytesX B k 4).length
    have h3 := pow256 hl
    unfold wordL
    omega
  rcases h2 : getW B (bytesK B k 4) with n | ⟨T, k1⟩
  · rw [h2] at h; cases h
  rw [h2] at h
  simp only at h
  obtain ⟨t1, t2⟩ := getW_valid h2
  unfold getD2 at h
  rcases h3 : descP ((B.drop k1).take 1024) 28 8 with n | ⟨g2, L2, m2⟩
  · rw [h3] at h; cases h
  rw [h3] at h
  simp only at h
  rcases h4 : descP ((B.drop (k1 + m2)).take 1024) 44 9 with n | ⟨g3, L3, m3⟩
  · rw [h4] at h; cases h
  rw [h4] at h
  simp only at h
  rcases h5 : descP ((B.drop (k1 + m2 + m3)).take 1024) 44 9 with n | ⟨g1, L1, m1⟩
  · rw [h5] at h; cases h
  rw [h5] at h
  simp only at h
  unfold getD3 at h
  rcases h6 : contR B 3 (k1 + m2 + m3 + m1) [] with n | ⟨acc, k6⟩
  · rw [h6] at h; cases h
  obtain ⟨x, y, z, rfl, hx, hy, hz⟩ := contR_valid h6
  rw [h6] at h
  simp only [List.map_cons, List.map_nil, List.getD_cons_zero, List.getD_cons_succ] at h
  rcases h7 : conR B k6 (x : Int) (y : Int) (z : Int) with n | ⟨X, k7⟩
  · rw [h7] at h; cases h
  obtain ⟨c1, c2, c3, c4, c5⟩ := conR_valid h7
  rw [h7] at h
  simp only at h
  split at h
  · rename_i h8
    cases h
    refine ⟨⟨(vD_full hid).2 ⟨t1, t2, descP_valid h3, descP_valid h4, descP_valid h5, c1, ⟨by show (1 : Int) ≤ (x : Int); omega, c2⟩, ⟨by show (1 : Int) ≤ (y : Int); omega, c3⟩, ⟨by show (1 : Int) ≤ (z : Int); omega, c4⟩⟩, hw.1, hw.2, ?_, c5⟩, hid⟩
    unfold conR at h7
    split at h7
    · cases h7
    split at h7
    · cases h7
    split at h7
    · cases h7
    cases h7
    exact bytesX_le
  · cases h
/-- What bytes say is a valid dictionary. -/
theorem getA_valid {B : List Int} {D : DD} (hb : ∀ x ∈ B, 0 ≤ x ∧ x ≤ 255) (h : getA B = .ok D) : GotOk B D := by
  unfold getA at h
  split at h
  · exact (getD_valid hb h).1
  · rename_i hm
    cases h
    exact ⟨(vD_raw rfl).2 ⟨rfl, ⟨rfl, rfl⟩, ⟨rfl, rfl⟩, ⟨rfl, rfl⟩, ⟨rfl, rfl, rfl⟩, by simpa using hm⟩, (show (0 : Int) ≤ 0 by decide), (show (0 : Int) < 4294967296 by decide), Nat.le_refl _, fun x hx => hx⟩
end

section
set_option linter.unusedVariables false
set_option linter.unusedSimpArgs false
set_option linter.unusedSectionVars false
open Go.RowKit

theorem rget_all (v : Value) (l : List Int) (w : World) (hv : RdI .u8 w v l) (hl : ∀ x ∈ l, 0 ≤ x ∧ x ≤ 255) (hn : l.length ≤ 100000) :
    Calls Tryz.prog 25 #[v] w (RGotA w (getA l)) := by
  unfold getA
  by_cases hm : markB l = true
  · rw [if_pos hm]; exact rget_full v l w hv hn hl hm
  · rw [if_neg hm]; exact rget_raw v l w hv hn hl (by simpa using hm)
theorem vD_len {D : DD} (h : vD D = true) : D.T.length ≤ 256 ∧ D.L1.length ≤ 44 ∧ D.L2.length ≤ 44 ∧ D.L3.length ≤ 44 := by
  by_cases hid : D.id = 0
  · obtain ⟨h1, ⟨-, h2⟩, ⟨-, h3⟩, ⟨-, h4⟩, -⟩ := (vD_raw hid).1 h
    rw [h1, h2, h3, h4]; simp
  · obtain ⟨h1, -, h2, h3, h4, -⟩ := (vD_full hid).1 h
    have a1 := (treeL_iff.1 h1).1
    obtain ⟨-, -, -, a2, -⟩ := tblB_iff.1 h2
    obtain ⟨-, -, -, a3, -⟩ := tblB_iff.1 h3
    obtain ⟨-, -, -, a4, -⟩ := tblB_iff.1 h4
    omega

set_option maxRecDepth 100000 in
set_option maxHeartbeats 8000000 in
theorem law_gets (v : Value) (l : List Int) (w : World) (hv : RdI .u8 w v l) (hl : ∀ x ∈ l, 0 ≤ x ∧ x ≤ 255) : Calls Tryz.prog 5 #[v] w (LawEnd w) := by
  obtain ⟨A0, n, cp0, rfl, hnl, -⟩ := hv.form
  by_cases hbig : 3000 < n
  · clear hv hnl hl
    have h1 : (3000 : Int) < (n : Int) := by omega
    go_enter Tryz.func5, Tryz.ntmps5
    go_wp2_with (go_at_call 11; refine (known_true _).mono ?_; rintro e w5 ⟨rfl, kk⟩)
    go_ret
    exact ⟨rfl, kk.below⟩
  have hd : decide ((3000 : Int) < (n : Int)) = false := by simp; omega
  have HO := Lib.hid (r_own _ l w hv (by omega))
  have HG := Lib.hid (fun w1 u (h : RdI .u8 w1 u l) => get_all u l w1 h hl (by omega))
  have HR := Lib.hid (fun w1 (k : Keeps w w1 []) => rget_all _ l w1 (hv.keeps k) hl (by omega))
  cases hA : getA l with
  | error E =>
    rw [hA] at HG HR
    unfold GotA at HG
    unfold RGotA at HR
    simp only at HG HR
    clear hv hnl hl hA
    go_enter Tryz.func5, Tryz.ntmps5
    go_wp2_with (first
      | (go_at_call 13; go_loud (refine HO.out.mono ?_; rintro e w1 ⟨v1, rfl, own1, k1⟩; have r1 := own_reads own1))
      | (go_at_call 24; go_loud (refine (HG.out _ _ r1).mono ?_; rintro e w2 ⟨k2, hn0, rfl⟩; have b0 := Blk.new w2 zeroC 32; have kw2 := (k1.then k2).alloc (.cells zeroC 32); clear hn0))
      | (go_at_call 25; go_loud (refine (HR.out _ kw2).mono ?_; rintro e w3 ⟨k3, hn0, rfl⟩; have b1 := (b0.keeps k3 (by simp)).alloc (.cells zeroC 32); have b2 := Blk.new w3 zeroC 32; have kw3 := (kw2.then k3).alloc (.cells zeroC 32); obtain ⟨q0, q1, q2, q3, q4, q5, q6, q7, q8, q9, qa, qb⟩ := dict_cells b1; obtain ⟨y0, y1, y2, y3, y4, y5, y6, y7, y8, y9, ya, yb⟩ := dict_cells b2; clear hn0))
      | (go_at_call 15; go_loud (refine (dsame_yes 0 0 0 0 0 0 0 _ _ _ _ _ _ _ _ _ _ [] [] [] [] [] _ .nil .nil .nil .nil .nil .nil .nil .nil .nil .nil (by simp) (by simp) (by simp) (by simp)).mono ?_; rintro e w4 ⟨rfl, k4⟩))
      | (go_at_call 11; refine (known_true _).mono ?_; rintro e w5 ⟨rfl, kk⟩))
    go_ret
    exact ⟨rfl, ((kw3.then k4).then kk).below⟩
  | ok D =>
    have hok := getA_valid hl hA
    obtain ⟨l0, l1, l2, l3⟩ := vD_len hok.valid
    rw [hA] at HG HR
    unfold GotA at HG
    unfold RGotA at HR
    simp only at HG HR
    obtain ⟨id, T, g1, L1, g2, L2, g3, L3, a, b, c, X⟩ := D
    simp only at HG HR l0 l1 l2 l3
    have HLS := Lib.hid (show T.length ≤ 1000000 ∧ L1.length ≤ 1000000 ∧ L2.length ≤ 1000000 ∧ L3.length ≤ 1000000 from ⟨by omega, by omega, by omega, by omega⟩)
    clear hv hnl hl hA hok l0 l1 l2 l3
    go_enter Tryz.func5, Tryz.ntmps5
    go_wp2_with (first
      | (go_at_call 13; go_loud (refine HO.out.mono ?_; rintro e w1 ⟨v1, rfl, own1, k1⟩; have r1 := own_reads own1))
      | (go_at_call 24; go_loud (refine (HG.out _ _ r1).mono ?_; rintro e w2 ⟨k2, t, n1, n2, n3, x, rfl, ⟨rt, rn1, rn2, rn3, rx⟩, -⟩; obtain ⟨ta, tm, tc, rfl, -, -⟩ := rt.form; obtain ⟨a1, m1, c1, rfl, -, -⟩ := rn1.form; obtain ⟨a2, m2, c2, rfl, -, -⟩ := rn2.form; obtain ⟨a3, m3, c3, rfl, -, -⟩ := rn3.form; obtain ⟨xa, xm, xc, rfl, -, -⟩ := rx.form; have b0 := Blk.new w2 (dictC id (.slice ta tm tc) g1 (.slice a1 m1 c1) g2 (.slice a2 m2 c2) g3 (.slice a3 m3 c3) a b c (.slice xa xm xc)) 32; have kw2 := (k1.then k2).alloc (.cells (dictC id (.slice ta tm tc) g1 (.slice a1 m1 c1) g2 (.slice a2 m2 c2) g3 (.slice a3 m3 c3) a b c (.slice xa xm xc)) 32); have RR := Lib.hid (fun W (k : Keeps w2 W []) => (show _ ∧ _ ∧ _ ∧ _ ∧ _ from ⟨rt.keeps k, rn1.keeps k, rn2.keeps k, rn3.keeps k, rx.keeps k⟩)); have ka := (Keeps.refl w2 []).alloc (.cells (dictC id (.slice ta tm tc) g1 (.slice a1 m1 c1) g2 (.slice a2 m2 c2) g3 (.slice a3 m3 c3) a b c (.slice xa xm xc)) 32); clear rt rn1 rn2 rn3 rx k1 k2 own1 r1))
      | (go_at_call 25; go_loud (refine (HR.out _ kw2).mono ?_; rintro e w3 ⟨k3, t', n1', n2', n3', x', rfl, rt, rn1, rn2, rn3, rx⟩; obtain ⟨ta', tm', tc', rfl, -, -⟩ := rt.form; obtain ⟨a1', m1', c1', rfl, -, -⟩ := rn1.form; obtain ⟨a2', m2', c2', rfl, -, -⟩ := rn2.form; obtain ⟨a3', m3', c3', rfl, -, -⟩ := rn3.form; obtain ⟨xa', xm', xc', rfl, -, -⟩ := rx.form; have b1 := (b0.keeps k3 (by simp)).alloc (.cells (dictC id (.slice ta' tm' tc') g1 (.slice a1' m1' c1') g2 (.slice a2' m2' c2') g3 (.slice a3' m3' c3') a b c (.slice xa' xm' xc')) 32); have b2 := Blk.new w3 (dictC id (.slice ta' tm' tc') g1 (.slice a1' m1' c1') g2 (.slice a2' m2' c2') g3 (.slice a3' m3' c3') a b c (.slice xa' xm' xc')) 32; have kw3 := (kw2.then k3).alloc (.cells (dictC id (.slice ta' tm' tc') g1 (.slice a1' m1' c1') g2 (.slice a2' m2' c2') g3 (.slice a3' m3' c3') a b c (.slice xa' xm' xc')) 32); have kb := (Keeps.refl w3 []).alloc (.cells (dictC id (.slice ta' tm' tc') g1 (.slice a1' m1' c1') g2 (.slice a2' m2' c2') g3 (.slice a3' m3' c3') a b c (.slice xa' xm' xc')) 32); obtain ⟨q0, q1, q2, q3, q4, q5, q6, q7, q8, q9, qa, qb⟩ := dict_cells b1; obtain ⟨y0, y1, y2, y3, y4, y5, y6, y7, y8, y9, ya, yb⟩ := dict_cells b2; have RS1 := Lib.hid (RR.out _ ((ka.then k3).then kb)); have RS2 := Lib.hid (show _ ∧ _ ∧ _ ∧ _ ∧ _ from ⟨rt.keeps kb, rn1.keeps kb, rn2.keeps kb, rn3.keeps kb, rx.keeps kb⟩); clear rt rn1 rn2 rn3 rx k3 kb ka RR))
      | (go_at_call 15; go_loud (refine (dsame_yes id g1 g2 g3 a b c _ _ _ _ _ _ _ _ _ _ T L1 L2 L3 X _ RS1.out.1 RS2.out.1 RS1.out.2.1 RS2.out.2.1 RS1.out.2.2.1 RS2.out.2.2.1 RS1.out.2.2.2.1 RS2.out.2.2.2.1 RS1.out.2.2.2.2 RS2.out.2.2.2.2 HLS.out.1 HLS.out.2.1 HLS.out.2.2.1 HLS.out.2.2.2).mono ?_; rintro e w4 ⟨rfl, k4⟩))
      | (go_at_call 11; refine (known_true _).mono ?_; rintro e w5 ⟨rfl, kk⟩))
    go_ret
    exact ⟨rfl, ((kw3.then k4).then kk).below⟩
end

section
set_option linter.unusedVariables false
set_option linter.unusedSimpArgs false
open Go.ChangeShapes Go.WideShapes Go.ChangeAt Go.RowKit Go.Joins

set_option maxRecDepth 100000 in
theorem dictGets_lifted (os : Os) (started : os.Started) (H : Type) (enc : TypeId × Value → H) :
    ReturnsInHanded {} Tryz.checked os 5 .any (Rows.dictGetsSpec.pre6 enc Tryz.prog Tryz.f5 Rows.dictGetsRow.domain false) (Rows.dictGetsSpec.post enc Tryz.prog Tryz.f5 false true false false) :=
  returnsInHanded_of_change (C := Tryz.checked) Tryz.own started (by kernel_rfl) Tryz.func5
    (ChangeSpec.witness6 (enc := enc) (C := Tryz.checked) false ⟨#[], #[.slice none 0 0], []⟩ 8 (by kernel_rfl) (by kernel_rfl) (by kernel_rfl) (by kernel_rfl))
    (law_contract (C := Tryz.checked) Tryz.laidOut rfl
      (fun ds hd => by
        match ds, hd with
        | [d1], _ => rfl)
      (fun t ht => by
        have : t = 22 := by first | (simpa [Tryz.params5] using ht) | (have h9 := ht; simp [Tryz.params5] at h9; (repeat' (rcases h9 with h9 | h9)) <;> simp)
        rcases this with rfl <;> exact ⟨by kernel_rfl, of_decide_eq_true (by kernel_rfl)⟩)
      (tb := 4) rfl Tryz.underlying4
      (fun W base args ds ps hval0 hA0 hlt hnf => by
        have hval : ∀ (j : Nat) t v, Tryz.f5.params[j]? = some t → args[j]? = some v → Value.okWide Tryz.prog W .any base t v := hval0
        have hA : DataW.TrodAll enc Tryz.prog W 0 (fun _ => true) true Tryz.f5.params.toList args.toList ds ps := hA0
        rw [Tryz.params5] at hA hval
        obtain ⟨v0, d0, rfl, rfl, h0⟩ := trodAll_one hA
        obtain ⟨l, hl, hl'⟩ := open_nums Tryz.underlying22 Tryz.underlying5 (by kernel_rfl) (slice_cells Tryz.underlying22 (hval 0 22 v0 rfl rfl)) h0
        exact law_gets v0 l W hl (fun x hx => u8_bounds (hl' x hx))))

theorem dictGets_holds : Rows.DictGetsSaid :=
  OpenClaim.holds_of_wide 5 Tryz.f5 rfl rfl rfl rfl rfl rfl rfl ⟨rfl, rfl, rfl, rfl, rfl⟩ rfl rfl rfl rfl rfl (by kernel_rfl) Tryz.func5 (by kernel_rfl)
    (of_decide_eq_true (by kernel_rfl)) (by unfold Func.isWrapper; first | (rw [if_pos (by decide +kernel)]; kernel_rfl) | (rw [if_neg (by decide +kernel)]; exact ⟨rfl, rfl⟩))
    (fun os started H enc _ => dictGets_lifted os started H enc)

#print axioms dictGets_holds
end

end Go.Proofs.YtcmagccfagijlaaGreat
