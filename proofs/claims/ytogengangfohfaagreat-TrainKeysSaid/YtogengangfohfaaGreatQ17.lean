/-
  Walks: container/heap over the queue of package train: Push, Pop; next.
  Walks over package train: next.
-/
import Derived.Test.YtogengangfohfaaGreatQ16
namespace Go.Proofs.YtogengangfohfaaGreat
section
set_option linter.unusedVariables false
set_option linter.unusedSimpArgs false
set_option linter.unusedSectionVars false
open Go.RowKit

set_option maxRecDepth 100000 in
set_option maxHeartbeats 2000000 in
theorem hpush_any (pv : Int → Value) (Z : Nat → Prop) (p : Nat) (q : List It) (x : It) (w : World) (h : QAt pv Z w p q) (hZ : ∀ k, w.heap.size ≤ k → Z k) (hpv : PvOk pv) (hh : HeapN q q.length) (hn : q.length ≤ 100000000) :
    Calls Tryz.prog 51 #[ifQ p, .iface 98 (.agg #[.int .i64 x.at', .int .i64 x.worth, pv x.at'])] w fun e w' => e = .returned (.tuple #[]) ∧ HpEnd pv Z w p (q.length + 1) (q ++ [x]) w' := by
  have HP := Lib.hid (qpush_any pv Z p q x w h hZ hpv (by omega))
  have hmP := Tryz.methPush ⟨p, 0, none⟩
  have HU := Lib.hid (push_up x hh)
  obtain ⟨xv, hxv⟩ : ∃ xv, xv = (Value.agg #[.int .i64 x.at', .int .i64 x.worth, pv x.at']) := ⟨_, rfl⟩
  rw [← hxv] at HP ⊢
  clear h hZ hh hxv
  go_enter Tryz.func51, Tryz.ntmps51
  go_wp2_with fail
  refine HP.out.mono ?_
  rintro e w1 ⟨rfl, qa, kz⟩
  have hl : (q ++ [x]).length = q.length + 1 := by simp
  have hqa := qa
  obtain ⟨⟨g, c, bp, rq, zg⟩, zp⟩ := hqa
  obtain ⟨cp0, -⟩ := bp.one
  rw [hl] at cp0
  have hmL := Tryz.methLen ⟨p, 0, none⟩ _ w1 cp0
  have QA := Lib.hid qa
  have HL := Lib.hid hl
  clear bp rq cp0 qa HP hl
  obtain ⟨N, hN⟩ : ∃ N, N = q.length := ⟨_, rfl⟩
  rw [← hN] at hmL
  have HN := Lib.hid hN
  have hNb : N ≤ 100000000 := by omega
  clear hN
  go_wp2_with (go_at_call 52; refine (qlen_any _ _ _ _).mono ?_; rintro e w2 ⟨rfl, rfl⟩)
  have hu : UpI (q ++ [x]) (q ++ [x]).length N := by rw [HL.out, HN.out]; exact HU.out
  refine (up_any pv Z p N (q ++ [x]) w1 QA.out hpv hu (by rw [HL.out, ← HN.out]; omega) (by rw [HL.out, ← HN.out]; have := HN.out; omega)).mono ?_
  rintro e w3 ⟨rfl, q', hp, hh, qa3, kz3⟩
  rw [HL.out] at hh
  have fin : HpEnd pv Z w p (q.length + 1) (q ++ [x]) w3 := ⟨q', hp, hh, qa3, kz.trans kz3⟩
  have FIN := Lib.hid fin
  clear hmL hmP hp hh qa3 kz3 hu fin
  go_wp2_with fail
  go_end0
  exact ⟨rfl, FIN.out⟩

/-- How heap.Pop and next end. -/
def PopEnd (pv : Int → Value) (Z : Nat → Prop) (w : World) (p N : Nat) (q : List It) (val : It → Value) (e : Ending) (w' : World) : Prop :=
  ∃ (x : It) (q' : List It), e = .returned (val x) ∧ (x :: q').Perm q ∧ (∀ y ∈ q', leI x y) ∧ HeapN q' q'.length ∧ QAt pv Z w' p q' ∧ KeepsZ Z w w'
def aggQ (pv : Int → Value) (x : It) : Value := .agg #[.int .i64 x.at', .int .i64 x.worth, pv x.at']

theorem el_mem {q : List It} {y : It} (h : y ∈ q) : ∃ k, k < q.length ∧ el q k = y := by
  obtain ⟨k, hk⟩ := List.mem_iff_getElem?.1 h
  exact ⟨k, (List.getElem?_eq_some_iff.1 hk).1, by simp [el, List.getD_eq_getElem?_getD, hk]⟩
theorem pop_plain {q q' : List It} {N : Nat} (hl : q.length = N + 1) (hh : HeapN q q.length) (hp : q'.Perm (swp q 0 N)) (hN : HeapN q' N) (hlast : el q' N = el (swp q 0 N) N) :
    (el q' N :: q'.take N).Perm q ∧ (∀ y ∈ q'.take N, leI (el q' N) y) ∧ HeapN (q'.take N) (q'.take N).length ∧ q'.length = N + 1 := by
  have hq' : q'.length = N + 1 := by rw [hp.length_eq, swp_len]; exact hl
  have h0 : el q' N = el q 0 := by rw [hlast, el_swp (by omega) (by omega)]; simp
  have hs : q'.take N ++ [el q' N] = q' := by
    have e : q'[N]? = some (el q' N) := el_some (by omega)
    have h1 : q'.take (N + 1) = q'.take N ++ [el q' N] := by rw [List.take_add_one, e]; rfl
    rw [← h1]
    exact List.take_of_length_le (by omega)
  have hp2 : (el q' N :: q'.take N).Perm q := by
    have h1 : (el q' N :: q'.take N).Perm (q'.take N ++ [el q' N]) := List.perm_append_comm (l₁ := [el q' N])
    rw [hs] at h1
    exact h1.trans (hp.trans (swp_perm (by omega) (by omega)))
  have hlt : (q'.take N).length = N := by rw [List.length_take]; omega
  refine ⟨hp2, fun y hy => ?_, ?_, hq'⟩
  · have hy2 : y ∈ q := hp2.mem_iff.1 (List.mem_cons_of_mem _ hy)
    obtain ⟨k, hk, rfl⟩ := el_mem hy2
    rw [h0]
    exact heap_root hh k (by omega)
  · rw [hlt]
    intro k k0 hk
    have hpk : par k < N := by unfold par; omega
    rw [el_take hpk, el_take hk]
    exact hN k k0 hk

set_option maxRecDepth 100000 in
set_option maxHeartbeats 2000000 in
theorem hpop_any (pv : Int → Value) (Z : Nat → Prop) (p N : Nat) (q : List It) (w : World) (h : QAt pv Z w p q) (hpv : PvOk pv) (hh : HeapN q q.length) (hl : q.length = N + 1) (hn : N ≤ 100000000) :
    Calls Tryz.prog 106 #[ifQ p] w (PopEnd pv Z w p N q (fun x => .iface 98 (aggQ pv x))) := by
  have hqa := h
  obtain ⟨⟨g, c, bp, rq, zg⟩, zp⟩ := hqa
  obtain ⟨cp0, -⟩ := bp.one
  rw [hl] at cp0 rq bp
  have hpg : Hid (p ≠ g) := fun e => by subst e; exact own_neO rq.2 bp (fun cs h => by cases h) rfl
  have hmL := Tryz.methLen ⟨p, 0, none⟩ _ w cp0
  have hmS := Tryz.methSwap ⟨p, 0, none⟩ _ w cp0
  have hmP := Tryz.methPop ⟨p, 0, none⟩
  have HL := Lib.hid hl
  have HH := Lib.hid hh
  have HSW := Lib.hid (swap_any pv g (N + 1) c 0 N q w rq hpv (by omega) (by omega) (by omega))
  have BP := Lib.hid bp
  clear bp rq cp0 h hl hh
  go_enter Tryz.func106, Tryz.ntmps106
  go_wp2_with (go_at_call 52; refine (qlen_any _ _ _ _).mono ?_; rintro e w2 ⟨rfl, rfl⟩)
  refine HSW.out.mono ?_
  rintro e w2 ⟨rfl, rq2, k2⟩
  have hl2 : (swp q 0 N).length = N + 1 := by rw [swp_len]; exact HL.out
  have qa2 : QAt pv Z w2 p (swp q 0 N) := ⟨⟨g, c, by rw [hl2]; exact BP.out.keeps k2 (fun hm => hpg.out (List.mem_singleton.1 hm)), by rw [hl2]; exact rq2, zg⟩, zp⟩
  have kz2 : KeepsZ Z w w2 := KeepsZ.of k2 (fun k hk => by rw [List.mem_singleton.1 hk]; exact zg)
  have HD := Lib.hid (down_any pv Z p N (swp q 0 N) w2 qa2 hpv (pop_down HL.out HH.out) hl2 hn)
  clear hmL hmS HSW rq2 k2 hl2 qa2
  go_wp2_with fail
  refine HD.out.mono ?_
  rintro e w3 ⟨⟨b, rfl⟩, q', hp, hN, hlast, qa3, kz3⟩
  obtain ⟨f1, f2, f3, f4⟩ := pop_plain HL.out HH.out hp hN hlast
  have HPO := Lib.hid (qpop_any pv Z p N q' (el q' N) w3 qa3 hpv f4 rfl (by omega))
  have F1 := Lib.hid f1
  have F2 := Lib.hid f2
  have F3 := Lib.hid f3
  clear hp hN hlast qa3 f1 f2 f3 f4 HD
  generalize el q' N = x at *
  go_wp2_with fail
  refine HPO.out.mono ?_
  rintro e w4 ⟨rfl, qa4, kz4⟩
  have fin : PopEnd pv Z w p N q (fun x => .iface 98 (aggQ pv x)) (.returned (.iface 98 (aggQ pv x))) w4 := ⟨x, q'.take N, rfl, F1.out, F2.out, F3.out, qa4, (kz2.trans kz3).trans kz4⟩
  have FIN := Lib.hid fin
  clear hmP HPO qa4 kz4 fin
  go_wp2_with fail
  go_ret
  exact FIN.out
end

section
set_option linter.unusedVariables false
set_option linter.unusedSimpArgs false
set_option linter.unusedSectionVars false
open Go.RowKit

theorem QAt.mono {pv : Int → Value} {Z Z' : Nat → Prop} {w : World} {p : Nat} {q : List It} (h : QAt pv Z w p q) (hz : ∀ k, Z k → Z' k) : QAt pv Z' w p q := by
  obtain ⟨⟨g, c, bp, rq, zg⟩, zp⟩ := h
  exact ⟨⟨g, c, bp, rq, hz g zg⟩, hz p zp⟩
theorem KeepsZ.mono {Z Z' : Nat → Prop} {w w' : World} (h : KeepsZ Z w w') (hz : ∀ k, Z k → Z' k) : KeepsZ Z' w w' := by
  obtain ⟨S, h1, h2⟩ := h
  exact ⟨S, h1, fun k hk => hz k (h2 k hk)⟩
theorem QAt.keepsN {pv : Int → Value} {Z : Nat → Prop} {w w' : World} {p : Nat} {q : List It} (h : QAt pv Z w p q) {S : List Nat} (k : Keeps w w' S) (hS : ∀ x ∈ S, ¬ Z x) : QAt pv Z w' p q := by
  obtain ⟨⟨g, c, bp, rq, zg⟩, zp⟩ := h
  exact ⟨⟨g, c, bp.keeps k (fun hm => hS _ hm zp), rq.keeps k (fun hm => hS _ hm zg), zg⟩, zp⟩
theorem QAt.not {pv : Int → Value} {Z : Nat → Prop} {w : World} {p : Nat} {q : List It} (h : QAt pv Z w p q) {b : Nat} (hb : w.heap.size ≤ b) : QAt pv (fun k => Z k ∧ k ≠ b) w p q := by
  obtain ⟨⟨g, c, bp, rq, zg⟩, zp⟩ := h
  exact ⟨⟨g, c, bp, rq, zg, by have := rq.lt.2; omega⟩, zp, by have := bp.lt; omega⟩

set_option maxRecDepth 100000 in
set_option maxHeartbeats 2000000 in
theorem next_any (pv : Int → Value) (Z : Nat → Prop) (p N : Nat) (q : List It) (w : World) (h : QAt pv Z w p q) (hZ : ∀ k, w.heap.size ≤ k → Z k) (hpv : PvOk pv) (hh : HeapN q q.length) (hl : q.length = N + 1) (hn : N ≤ 100000000) :
    Calls Tryz.prog 53 #[.pointer (some ⟨p, 0, none⟩)] w (PopEnd pv Z w p N q (aggQ pv)) := by
  have k0 : Keeps w (w.alloc (.cells #[.int .i64 0, .int .i64 0, .slice none 0 0] 98)) [] := (Keeps.refl w []).alloc _
  have b2 := Blk.new w #[.int .i64 0, .int .i64 0, .slice none 0 0] 98
  have qa' : QAt pv (fun k => Z k ∧ k ≠ w.heap.size) (w.alloc (.cells #[.int .i64 0, .int .i64 0, .slice none 0 0] 98)) p q := by
    obtain ⟨⟨g, c, bp, rq, zg⟩, zp⟩ := h.not (b := w.heap.size) (Nat.le_refl _)
    exact ⟨⟨g, c, bp.keeps k0 (by simp), rq.keeps k0 (by simp), zg⟩, zp⟩
  have HPO := Lib.hid (hpop_any pv _ p N q _ qa' hpv hh hl hn)
  have HZ := Lib.hid hZ
  have z2 : Z w.heap.size := hZ _ (Nat.le_refl _)
  have hta : ∀ v w, (Instr.typeAssert (.iface 98 v) 20 98 true).run Tryz.prog w = .ok (.tuple #[v, .bool true]) w := fun _ _ => by kernel_rfl
  have hsz : (w.alloc (.cells #[.int .i64 0, .int .i64 0, .slice none 0 0] 98)).heap.size = w.heap.size + 1 := by simp
  have HSZ := Lib.hid hsz
  clear h hZ qa' hh hl hsz
  go_enter Tryz.func53, Tryz.ntmps53
  go_wp2_with fail
  generalize (w.alloc (.cells #[.int .i64 0, .int .i64 0, .slice none 0 0] 98)) = W0 at *
  refine HPO.out.mono ?_
  rintro e w1 ⟨x, q', rfl, hp, hle, hh, qa, kz⟩
  have b3 := kz.blk b2 (fun h => h.2 rfl)
  obtain ⟨a1, n1, c1, e1⟩ := hpv x.at'
  have HX : Hid (aggQ pv x = .agg #[.int .i64 x.at', .int .i64 x.worth, .slice a1 n1 c1]) := by show aggQ pv x = _; unfold aggQ; rw [e1]
  have fin : ∀ w', Keeps w1 w' [w.heap.size] → PopEnd pv Z w p N q (aggQ pv) (.returned (.agg #[.int .i64 x.at', .int .i64 x.worth, .slice a1 n1 c1])) w' := fun w' k => by
    refine ⟨x, q', by rw [HX.out], hp, hle, hh, (qa.keepsN k (fun y hy hz => hz.2 (List.mem_singleton.1 hy))).mono (fun k h => h.1), ?_⟩
    exact ((KeepsZ.of k0 (fun k hk => by cases hk)).trans (kz.mono (fun k h => h.1))).trans (KeepsZ.of k (fun y hy => by rw [List.mem_singleton.1 hy]; exact z2))
  have FIN := Lib.hid fin
  dsimp only
  rw [HX.out]
  have hs1 : w.heap.size < w1.heap.size := b3.lt
  obtain ⟨c0, c1', c2, f0, f1, f2⟩ := b3.three
  generalize x.at' = xa at *
  generalize x.worth = xw at *
  clear hp hle hh qa kz fin HX e1 b2 HPO
  go_wp2_with fail
  refine bodyPost_ret (v := .agg #[.int .i64 xa, .int .i64 xw, .slice a1 n1 c1]) (by simp only [results, Tryz.results53]; go_simp) rfl (FIN.out _ ?_)
  repeat (first | exact Keeps.refl _ _ | refine Keeps.setCell' (.inr (by simp)) ?_ | refine Keeps.alloc ?_ _)
end

end Go.Proofs.YtogengangfohfaaGreat
