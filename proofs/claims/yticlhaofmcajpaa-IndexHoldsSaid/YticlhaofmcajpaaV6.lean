/-
  Walks of an index: the closure of Chain, gone, slices.All, Chain.
-/
import Derived.Test.YticlhaofmcajpaaV5
namespace Go.Proofs.Yticlhaofmcajpaa
set_option linter.unusedVariables false
set_option linter.unusedSimpArgs false
set_option linter.unusedSectionVars false
open Go.RowKit

theorem prevV_chain (K : Nat) (B : List Int) (p : Int) : prevV K B p = (refChain K B p).head? := by
  unfold prevV refChain
  split <;> rfl
theorem chain_none {K : Nat} {B : List Int} {p : Int} (h : prevV K B p = none) : refChain K B p = [] := by
  rw [prevV_chain] at h
  simpa using h
theorem chain_some {K : Nat} {B : List Int} {p q : Int} (h : prevV K B p = some q) : refChain K B p = q :: refChain K B q ∧ 0 ≤ q ∧ q < p ∧ q < (nk K B : Int) := by
  unfold prevV at h
  split at h
  · rename_i hh
    have hb : 0 ≤ p ∧ p < (nk K B : Int) := by simpa [hasB] using hh
    cases hc : chainL K B p.toNat with
    | nil => rw [hc] at h; cases h
    | cons x r =>
      obtain ⟨m, rfl, h2, h3, rfl, h5⟩ := chainL_cons hc
      rw [hc] at h
      cases h
      have hm : hasB (nk K B) (m : Int) = true := by simp [hasB]; omega
      refine ⟨?_, by omega, by omega, by omega⟩
      simp only [refChain, hh, hm, if_true, hc, Int.toNat_natCast]
  · cases h
theorem refChain_len (K : Nat) (B : List Int) (p : Int) : (refChain K B p).length ≤ nk K B := by
  unfold refChain
  split
  · rename_i hh
    have hb : 0 ≤ p ∧ p < (nk K B : Int) := by simpa [hasB] using hh
    have := plN_len K B p.toNat (pad (keyAt K B p.toNat))
    unfold chainL
    omega
  · simp

theorem chain1_any (p K : Nat) (B : List Int) (S : List Nat) (bx : Nat) (at' : Int) (w : World) (h : Idx w p K B S) (hx : w.cell? ⟨bx, 0, none⟩ = some (.pointer (some ⟨p, 0, none⟩))) :
    Calls Try.prog 34 #[.int .i64 at', .pointer (some ⟨bx, 0, none⟩)] w fun e w' => e = .returned (optV (prevV K B at')) ∧ w = w' := by
  have H := Lib.hid (previous_any p K B S at' w h)
  clear h
  generalize prevV K B at' = o at *
  unfold optV at H ⊢
  go_enter Try.func34, Try.ntmps34
  go_wp2_with (go_at_call 15; refine H.out.mono ?_; rintro e w' ⟨rfl, rfl⟩)
  go_ret2
  exact ⟨rfl, rfl⟩

theorem alli_any (a : Option Addr) (n cp : Nat) (w : World) :
    Calls Try.prog 36 #[.slice a n cp] w fun e w' =>
      e = .returned (.func (.func 41) #[] #[.pointer (some ⟨w.heap.size, 0, none⟩)]) ∧ w' = w.alloc (.cells #[.slice a n cp] 37) := by
  go_enter Try.func36, Try.ntmps36
  go_wp2
  go_ret
  exact ⟨rfl, rfl⟩

/-- What is left of a chain. -/
def restC (K : Nat) (B : List Int) : Option Int → List Int
  | none => []
  | some q => q :: refChain K B q
theorem restC_prev (K : Nat) (B : List Int) (p : Int) : restC K B (prevV K B p) = refChain K B p := by
  cases h : prevV K B p with
  | none => rw [chain_none h]; rfl
  | some q => rw [(chain_some h).1]; rfl
def mOf : Value → Value → Nat
  | .int _ q, .bool true => (q + 1).toNat
  | _, _ => 0

set_option maxRecDepth 100000 in
set_option maxHeartbeats 2000000 in
theorem gone_any (p K : Nat) (B : List Int) (S : List Nat) (bx : Nat) (at' : Int) (w : World) (h : Idx w p K B S) (hx : w.cell? ⟨bx, 0, none⟩ = some (.pointer (some ⟨p, 0, none⟩))) (hbx : bx < w.heap.size) :
    Calls Try.prog 33 #[.int .i64 at', .func (.func 34) #[] #[.pointer (some ⟨bx, 0, none⟩)]] w fun e w' =>
      ∃ v', e = .returned v' ∧ w'.ownsRow w.heap.size 3 1 v' (refChain K B at').length ((refChain K B at').map (.int .i64)) ∧ Keeps w w' [] := by
  obtain ⟨j0, hj0, yz0, yz1, yz2⟩ := info_parts Try.infoInt
  have HP := Lib.hid (fun (w1 : World) (k : Keeps w w1 []) (q : Int) => chain1_any p K B S bx q w1 (h.keep k) ((k.cell hbx (by simp)).trans hx))
  have hnl := refChain_len K B at'
  have hB := h.2.len
  have hnk : nk K B ≤ 1000001 := by unfold nk; omega
  have hr0 := restC_prev K B at'
  have HCS := Lib.hid (fun p q (e : prevV K B p = some q) => chain_some e)
  have HRS := Lib.hid (fun p => restC_prev K B p)
  clear h hx hB
  generalize hC : refChain K B at' = C at *
  have H0 := Lib.hid (HP.out w (Keeps.refl _ _) at')
  have HR0 := Lib.hid hr0
  have HQ0 : Hid (∀ q, prevV K B at' = some q → 0 ≤ q) := fun q e => (HCS.out _ q e).2.1
  clear hr0 hC
  generalize prevV K B at' = o0 at *
  unfold optV at H0 HP
  go_enter Try.func33, Try.ntmps33
  go_wp2_with (refine H0.out.mono ?_; rintro e w' ⟨rfl, rfl⟩)
  go_loopw [4, 5, 6] (fun s4 s5 s6 wr => ∃ (o : Option Int) (xs : List Int), s5 = .int .i64 (o.getD 0) ∧ s6 = .bool o.isSome ∧ wr.ownsRow w.heap.size 3 1 s4 xs.length (xs.map (.int .i64)) ∧ Hid (xs ++ restC K B o = C) ∧ Hid (∀ q, o = some q → 0 ≤ q) ∧ Keeps w wr []) (fun _ s5 s6 _ => mOf s5 s6)
  case atStart => exact ⟨o0, [], rfl, rfl, World.ownsRow_nil _ _ _ _, HR0.out, HQ0.out, Keeps.refl _ _⟩
  case round =>
    obtain ⟨o, xs, rfl, rfl, own, hxs, hq0, kq⟩ := hrel
    have hxl : xs.length ≤ 1000001 := by
      have := congrArg List.length hxs.out
      rw [List.length_append] at this
      omega
    cases o with
    | none =>
      have hx0 : Hid (xs = C) := by show _ = _; rw [← hxs.out]; simp [restC]
      obtain ⟨ax, cx, rfl⟩ := own_form own
      clear hxs
      go_wp2_with fail
      go_ret
      exact ⟨_, rfl, by rw [← hx0.out]; exact own, kq⟩
    | some q =>
      have HN := Lib.hid (HP.out wr kq q)
      have HCN := Lib.hid (HRS.out q)
      have hlt : Hid (∀ q', prevV K B q = some q' → 0 ≤ q' ∧ q' < q) := fun q' e => ⟨(HCS.out q q' e).2.1, (HCS.out q q' e).2.2.1⟩
      have hxc : Hid ((xs ++ [q]) ++ refChain K B q = C) := by show _ = _; rw [← hxs.out]; simp [restC]
      clear hxs
      go_wp2_with (first | (at_builtin; refine wpList_append_own _ rfl (.tmp 20) (.tmp 22) 37 rfl w.heap.size 3 j0 (.int .i64 0) 1 8 Try.underlying37 hj0 yz0 yz1 yz2 rfl (by decide) u4 xs.length (xs.map (.int .i64)) rfl (own.alloc _) ⟨wr.heap.size, 0, none⟩ 1 1 [.int .i64 q] rfl rfl (cell_one_new _ _ _) (by simp [Value.oneCell']) (by unfold maxLen; omega) (by omega) (by have := kq.size; simp; omega) ?_; intro v3 w3 own3 hg3 _; have k3 : Keeps wr w3 u4.ownBlock.toList := ((Keeps.refl wr _).alloc _).trans (Keeps.of_grown (S := u4.ownBlock.toList) hg3 (fun x hx => by simpa using hx)) (fun x hx _ => hx); have hlow : ∀ x ∈ u4.ownBlock.toList, w.heap.size ≤ x := fun x hx => (own.lt x (by simpa using hx)).1; have kq3 : Keeps w w3 [] := kq.trans k3 (fun x hx hlt => by have := hlow x hx; omega)) | (refine (HP.out _ kq3 q).mono ?_; rintro e w' ⟨rfl, rfl⟩))
      go_roundw
      case rel => exact ⟨prevV K B q, xs ++ [q], rfl, rfl, by rw [List.length_append, List.map_append]; exact own3, by show _ = _; rw [HCN.out]; exact hxc.out, fun q' e => (hlt.out q' e).1, kq3⟩
      case measure =>
        cases h : prevV K B q with
        | none => have := hq0.out q rfl; simp [mOf]; omega
        | some q' => have := hlt.out q' h; simp [mOf]; omega

/-- How Chain ends. -/
def ChainEnd (w : World) (K : Nat) (B : List Int) (at' : Int) (e : Ending) (w' : World) : Prop :=
  ∃ bl bt ad cp, e = .returned (.func (.func 35) #[] #[.pointer (some ⟨bl, 0, none⟩), .pointer (some ⟨bt, 0, none⟩)]) ∧
    Blk w' bl #[.slice ad (refChain K B at').length cp] 37 ∧ Blk w' bt #[.int .i64 at'] 3 ∧ RdI .i64 w' (.slice ad (refChain K B at').length cp) (refChain K B at') ∧
    (∀ p, ad = some p → w.heap.size ≤ p.block ∧ p.block < w'.heap.size) ∧ w.heap.size ≤ bl ∧ w.heap.size ≤ bt ∧ Keeps w w' []

set_option maxHeartbeats 1000000 in
theorem chain_any (p K : Nat) (B : List Int) (S : List Nat) (at' : Int) (w : World) (h : Idx w p K B S) :
    Calls Try.prog 19 #[.pointer (some ⟨p, 0, none⟩), .int .i64 at'] w (ChainEnd w K B at') := by
  have hmf : ∀ (fn : Fn) (first cap : Array Value) (w : World), (Instr.makeFunc fn first cap).run Try.prog w = .ok (.func fn first cap) w := fun _ _ _ _ => rfl
  have k0 : Keeps w ((w.alloc (.cells #[.pointer (some ⟨p, 0, none⟩)] 24)).alloc (.cells #[.int .i64 at'] 3)) [] := ((Keeps.refl w []).alloc _).alloc _
  have b0 := (Blk.new w #[.pointer (some ⟨p, 0, none⟩)] 24).alloc (.cells #[.int .i64 at'] 3)
  have b1 := Blk.new (w.alloc (.cells #[.pointer (some ⟨p, 0, none⟩)] 24)) #[.int .i64 at'] 3
  rw [World.size_alloc] at b1
  have G := Lib.hid (gone_any p K B S w.heap.size at' _ (h.keep k0) b0.one.1 b0.lt)
  clear h
  go_enter Try.func19, Try.ntmps19
  go_wp2_with (refine G.out.mono ?_; rintro e w1 ⟨v, rfl, own, k1⟩; obtain ⟨ad, cp, rfl⟩ := own_form own)
  go_ret
  have hs := k1.size
  simp only [World.size_alloc] at hs
  refine ⟨_, _, ad, cp, rfl, Blk.new _ _ _, (b1.keeps k1 (by simp)).alloc _, (own_reads own).keeps ((Keeps.refl w1 []).alloc _), ?_, by omega, by omega, (k0.then k1).alloc _⟩
  rintro q rfl
  have := own.lt _ rfl
  simp at this ⊢
  omega

end Go.Proofs.Yticlhaofmcajpaa
