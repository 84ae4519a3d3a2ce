/-
  Chain's iterator: its contract.
-/
import Derived.Test.YticlhaofmcajpaaV6
import Derived.Test.YticlhaofmcajpaaV7
import Derived.Shelf.Abstract
namespace Go.Proofs.Yticlhaofmcajpaa
set_option linter.unusedVariables false
set_option linter.unusedSimpArgs false
open Go.RowKit Go.Shelf

attribute [local go_sem] Oper.semAt_some

abbrev encP (x : Int × Int) : Array Value := #[.int .i64 x.1, .int .i64 x.2]
abbrev itemC (l : List Int) (at' : Int) (k : Nat) : Int × Int := ((l[k]?).getD 0, at' - (l[k]?).getD 0)

theorem Turn.below {X : World} {D : Nat} {o o' : Obj} (h : X.heap[D]? = some o) {B : Nat} (hB : B ≤ D) : Below B X (X.putObj D o') :=
  ⟨rfl, rfl, rfl, by simp, fun k hk => World.putObj_heap_other (by omega)⟩

def ChInv (J : List (Int × Int) → World → Prop) (l : List Int) (at' : Int) (pre : List (Nat × Int)) (W : World) : Prop :=
  ∃ k : Nat, pre = upto (itemN l) k ∧ k ≤ l.length ∧ J (upto (itemC l at') k) W

set_option maxRecDepth 100000 in
set_option maxHeartbeats 2000000 in
theorem chain2 (bl bt : Nat) (ad : Option Addr) (n cp : Nat) (l : List Int) (at' : Int) (w : World) (hbl : Blk w bl #[.slice ad n cp] 37) (hbt : Blk w bt #[.int .i64 at'] 3)
    (hr : RdI .i64 w (.slice ad n cp) l) (hn : l.length ≤ 1000000000) (hb : ∀ x ∈ l, 0 ≤ x ∧ x < at') (hat : at' ≤ 9223372036854775807) :
    SeqB Try.prog 35 #[.pointer (some ⟨bl, 0, none⟩), .pointer (some ⟨bt, 0, none⟩)] encP (fun k => (0 < n → ∀ p, ad = some p → k ≠ p.block) ∧ k ≠ bt)
      (fun ys => ys = upto (itemC l at') l.length) (fun pre => pre <+: upto (itemC l at') l.length) w := by
  intro lo C J Jx W hW hC hJ hJx hY h0
  have hKW := Keeps.of_below hW
  replace hbl := hbl.keeps hKW (by simp)
  replace hbt := hbt.keeps hKW (by simp)
  have hr' := hr.keeps hKW
  have hlt : ∀ p, 0 < n → ad = some p → p.block < W.heap.size := by
    intro p h0 he
    obtain ⟨b', o', h4, h5, _⟩ := hr'.addr h0
    rw [h4] at he; cases he; exact h5
  have lbt := hbt.lt
  have lbl := hbl.lt
  obtain ⟨c0, -⟩ := (hbl.alloc (.cells #[.func (.yield lo) #[] #[]] 70)).one
  have HR := Lib.hid hr'
  have HY := Lib.hid hY
  have HJ := Lib.hid hJ
  have HC := Lib.hid hC
  have HB := Lib.hid hb
  have HL := Lib.hid hlt
  clear hr hr' hY hJ hC hb hlt
  refine callsIn_of_wp_marks Try.func35 rfl trivial ?_ rfl
  simp only [Try.ntmps35, List.size_toArray, List.length_cons, List.length_nil, Nat.reduceAdd, Nat.reduceSub, Array.replicate_succ, Array.replicate_zero, List.push_toArray, List.append_toArray, List.nil_append, List.cons_append]
  refine wpIn_wide.2 ?_
  go_wp2_with fail
  refine wp_scope_straight ?_
  go_wp2_with fail
  apply wp_label
  go_wp2_with (refine (alli_any _ _ _ _).mono ?_; rintro e w' ⟨rfl, rfl⟩)
  have k0 : Keeps W ((W.alloc (.cells #[.func (.yield lo) #[] #[]] 70)).alloc (.cells #[.slice ad n cp] 37)) [] := ((Keeps.refl W []).alloc _).alloc _
  have hby := (Blk.new W #[.func (.yield lo) #[] #[]] 70).alloc (.cells #[.slice ad n cp] 37)
  have hbs := Blk.new (W.alloc (.cells #[.func (.yield lo) #[] #[]] 70)) #[.slice ad n cp] 37
  have hs0 : ((W.alloc (.cells #[.func (.yield lo) #[] #[]] 70)).alloc (.cells #[.slice ad n cp] 37)).heap.size = W.heap.size + 2 := by simp
  simp only [World.size_alloc] at hbs
  generalize ((W.alloc (.cells #[.func (.yield lo) #[] #[]] 70)).alloc (.cells #[.slice ad n cp] 37)) = W0 at *
  have hr0 := HR.out.keeps k0
  have hB0 : Below W.heap.size W W0 := k0.below
  have hbt0 := hbt.keeps k0 (by simp)
  clear c0
  refine range_P (gf := 41) (lb := #[.pointer (some ⟨W.heap.size + 1, 0, none⟩)]) rfl (enters_of Try.func41 (by kernel_rfl) rfl)
    (all1_int ad n cp (W.heap.size + 1) l W0 hbs hr0 hn) C ?hC ?hfine (fun _ => rfl)
    (fun pre X => ChInv J l at' pre X ∧ Blk X W.heap.size #[.func (.yield lo) #[] #[]] 70 ∧ Blk X bt #[.int .i64 at'] 3)
    (fun cd _ X => cd = .exit 0 ∧ ∃ pre, pre <+: upto (itemC l at') l.length ∧ Jx pre X) ?hI ?hIx ?h0 ?hround ?hdone ?hstop
  case hC =>
    intro k hk
    exact ⟨by have := (HC.out k hk).1; omega, (HC.out k hk).2.1⟩
  case hfine => exact fun hn0 p hp => by have := HL.out p hn0 hp; omega
  case hI =>
    rintro s A B ⟨⟨k, h1, h2, h5⟩, h7, h8⟩ hab
    exact ⟨⟨k, h1, h2, HJ.out _ _ _ h5 (hab.mono (by omega))⟩, (hab.block _ (by omega)).trans h7, (hab.block _ (by omega)).trans h8⟩
  case hIx =>
    rintro cd s A B ⟨h1, pre, h2, h3⟩ hab
    exact ⟨h1, pre, h2, hJx _ _ _ h3 (hab.mono (by omega))⟩
  case h0 => exact ⟨⟨0, rfl, Nat.zero_le _, HJ.out _ _ _ h0 hB0⟩, hby, hbt0⟩
  case hround =>
    rintro l' pre x W2 hle hlt2 ⟨⟨k, rfl, hk, hJk⟩, hby, hbt⟩ hsp
    obtain ⟨hkl, hxx⟩ := upto_next hsp
    obtain ⟨y, hx⟩ : ∃ y, l[k]? = some y := ⟨_, List.getElem?_eq_getElem hkl⟩
    have hi : itemN l k = (k, y) := by simp [itemN, hx]
    have hic : itemC l at' k = (y, at' - y) := by simp [itemC, hx]
    rw [hi] at hxx
    subst hxx
    have hv : 0 ≤ y ∧ y < at' := HB.out y (List.mem_of_getElem? hx)
    gi_wp2
    refine ⟨Keeps.refl W2 _, fun W3 hT => ?_⟩
    have hszT := hT.size
    have hB3 : Below W.heap.size W2 W3 := hT.below (by omega)
    have bY := hT.blk hby
    have bT := hT.blk hbt
    have hJ3 := HJ.out _ _ _ hJk hB3
    obtain ⟨y0, -⟩ := bY.one
    obtain ⟨t0, -⟩ := bT.one
    obtain ⟨fn, tmps, assign, body, hy, hR⟩ := HY.out (upto (itemC l at') k) (itemC l at' k) _ hJ3 (by rw [← upto_succ]; exact upto_prefix _ (by omega))
    rw [hic] at hy
    dsimp only [encP] at hy
    have HX := Lib.hid hx
    have HI := Lib.hid hi
    have HIC := Lib.hid hic
    clear hx hi hic hsp hT hby hbt hJk
    have hv1 := hv.1
    have hv2 := hv.2
    clear hv
    gi_wp2
    have notC : ∀ z, W.heap.size ≤ z → z ∉ C := fun z hz hm => by have := (HC.out z hm).1; omega
    refine (round_in hR).mono ?_
    rintro e W5 (⟨rfl, hJ5, hk5⟩ | ⟨rfl, hJx5, hk5⟩)
    · have bY5 := bY.keeps hk5 (notC _ (Nat.le_refl _))
      have bT5 := bT.keeps hk5 (fun hm => (HC.out _ hm).2.2 rfl)
      gi_wp2
      refine ⟨hk5, ⟨k + 1, ?_, hkl, ?_⟩, bY5, bT5⟩
      · rw [upto_succ, HI.out]
      · rw [upto_succ]; exact hJ5
    · gi_wp2
      refine ⟨hk5, rfl, _, ?_, hJx5⟩
      rw [← upto_succ]
      exact upto_prefix _ hkl
  case hdone =>
    rintro D xs X hD rfl ⟨⟨k, h1, h2, h5⟩, h7, h8⟩ hK
    have hkk : k = l.length := by have := congrArg List.length h1; simp only [upto_length] at this; omega
    subst hkk
    simp only [Exit.inBlock, Exit.noGoto]
    go_wp2_with fail
    refine ⟨by simp, .inl ⟨_, _, rfl, run_takeDeferred hK, ?_⟩⟩
    have hfin := HJ.out _ _ _ h5 (Turn.below (o' := .deferred none) hK (show W.heap.size ≤ D by omega))
    first
    | exact ⟨_, results_none rfl _ _ _, ⟨_, rfl⟩, .inl hfin⟩
    | exact ⟨_, results_none rfl _ _ _, ⟨_, rfl⟩, .inl ⟨_, rfl, hfin⟩⟩
  case hstop =>
    rintro D cd pre X hD hp ⟨rfl, pre', h2, h3⟩ hK
    go_wp2_with fail
    simp only [Exit.inBlock, Exit.noGoto]
    go_wp2_with fail
    refine ⟨by simp, .inl ⟨_, _, rfl, run_takeDeferred hK, ?_⟩⟩
    refine ⟨_, results_none rfl _ _ _, ⟨_, rfl⟩, ?_⟩
    have hbb : Below W.heap.size X (X.putObj D (.deferred none)) := Turn.below hK (by omega)
    exact .inr ⟨pre', h2, hJx _ _ _ h3 hbb⟩

end Go.Proofs.Yticlhaofmcajpaa
