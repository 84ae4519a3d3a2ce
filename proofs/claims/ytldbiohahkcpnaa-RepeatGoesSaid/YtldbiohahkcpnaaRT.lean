/-
  repeat.States: the call.
-/
import Derived.Test.YtldbiohahkcpnaaRS
import Derived.Laws.AppendOwnNone
namespace Go.Proofs.Ytldbiohahkcpnaa
set_option linter.unusedVariables false
set_option linter.unusedSimpArgs false
open Go.RowKit Go.Shelf

theorem cellsL_one (l : List I3) : ∀ u ∈ cellsL l, u.oneCell' = true := by
  intro u hu
  simp only [cellsL, List.mem_flatMap, cells3] at hu
  obtain ⟨x, _, hx⟩ := hu
  simp at hx
  rcases hx with rfl | rfl | rfl <;> simp [Value.oneCell']
/-- The cells of a list's slice, as append asks for them. -/
theorem Reads3.news {w : World} {ad : Addr} {n cp : Nat} {l : List I3} (h : Reads3 w (.slice (some ad) n cp) l) : ∀ j u, (cellsL l)[j]? = some u → w.cell? (ad.add j) = some u := by
  intro j u hj
  obtain ⟨a', n', cp', he, hn, hc⟩ := h.form
  obtain ⟨h1, h2, h3⟩ := Value.slice.inj he
  subst h1 h2 h3
  have hlt := (List.getElem?_eq_some_iff.1 hj).1
  rw [cellsL_length] at hlt
  obtain ⟨_, b, o, h2, h3, h4⟩ := hc (by omega)
  cases h2
  have : (⟨b, o, none⟩ : Addr).add j = ⟨b, o + j, none⟩ := by simp [Addr.add]
  rw [this, h4 j (by omega)]
  exact hj
theorem Reads3.none {w : World} {n cp : Nat} {l : List I3} (h : Reads3 w (.slice Option.none n cp) l) : n = 0 ∧ l = [] := by
  obtain ⟨a', n', cp', he, hn, hc⟩ := h.form
  obtain ⟨h1, h2, h3⟩ := Value.slice.inj he
  subst h1 h2 h3
  by_cases h0 : 0 < n
  · obtain ⟨_, b, o, h2, _⟩ := hc h0; cases h2
  · have : n = 0 := by omega
    subst this
    exact ⟨rfl, List.eq_nil_of_length_eq_zero hn.symm⟩

def StatesEnd (w : World) (a b c : Int) (l : List I3) (e : Ending) (w' : World) : Prop :=
  ∃ ra rb ad cp, e = .returned (.func (.func 41) #[] #[.pointer (some ⟨ra, 0, none⟩), .pointer (some ⟨rb, 0, none⟩)]) ∧
    Blk w' ra #[.int .i64 a, .int .i64 b, .int .i64 c] 22 ∧ Blk w' rb #[.slice ad l.length cp] 37 ∧ w'.ownsRow (w.heap.size + 1) 24 3 (.slice ad l.length cp) l.length (cellsL l) ∧
    w.heap.size ≤ ra ∧ w.heap.size ≤ rb ∧ Keeps w w' []

set_option maxHeartbeats 1000000 in
theorem states_any (a b c : Int) (l : List I3) (ad : Addr) (n cp0 : Nat) (w : World) (hv : Reads3 w (.slice (some ad) n cp0) l) (hn : l.length ≤ 1000000) :
    Calls Try.prog 25 #[.agg #[.int .i64 a, .int .i64 b, .int .i64 c], .slice (some ad) n cp0] w (StatesEnd w a b c l) := by
  have hmf : ∀ (fn : Fn) (first cap : Array Value) (w : World), (Instr.makeFunc fn first cap).run Try.prog w = .ok (.func fn first cap) w := fun _ _ _ _ => rfl
  have hnl : n = l.length := hv.len
  obtain ⟨i0, hi, hz0, hz1, hz2⟩ := info_parts Try.infoRaw
  have hv1 := hv.keeps ((Keeps.refl w []).alloc (.cells #[.int .i64 a, .int .i64 b, .int .i64 c] 22))
  have br := Blk.new w #[.int .i64 a, .int .i64 b, .int .i64 c] 22
  have fin : ∀ (v' : Value) (w1 : World), w1.ownsRow (w.heap.size + 1) 24 3 v' l.length (cellsL l) → Keeps (w.alloc (.cells #[.int .i64 a, .int .i64 b, .int .i64 c] 22)) w1 [] →
      StatesEnd w a b c l (.returned (.func (.func 41) #[] #[.pointer (some ⟨w.heap.size, 0, none⟩), .pointer (some ⟨w1.heap.size, 0, none⟩)])) (w1.alloc (.cells #[v'] 37)) := by
    intro v' w1 hown hk
    obtain ⟨ad, cp, rfl⟩ := owns_form hown
    have := hk.size
    simp only [World.size_alloc] at this
    exact ⟨_, _, ad, cp, rfl, (br.keeps hk (by simp)).alloc _, Blk.new _ _ _, owns_keeps hown ((Keeps.refl w1 []).alloc _), Nat.le_refl _, by omega, (((Keeps.refl w []).alloc _).then hk).alloc _⟩
  have HF := Lib.hid fin
  have HN := Lib.hid hnl
  have hnews := Lib.hid hv1.news
  have hn' : n ≤ 1000000 := by omega
  clear fin hv hv1 hnl hn
  go_enter Try.func25, Try.ntmps25
  go_wp2_with (first | (at_builtin; refine (wpList_append_own _ rfl _ _ 37 rfl (w.heap.size + 1) 24 i0 (.agg #[.int .i64 0, .int .i64 0, .int .i64 0]) 3 24 Try.underlying37 hi hz0 hz1 hz2 rfl (by decide) (.slice none 0 0) 0 [] rfl (World.ownsRow_nil _ _ _ _) ad n cp0 (cellsL l) rfl (by rw [cellsL_length, HN.out]) hnews.out (cellsL_one l) (by unfold maxLen; omega) (by omega) (by simp) ?_); intro v5 w5 hown5 hg5 _; rw [Nat.zero_add, List.nil_append] at hown5; obtain ⟨ad5, cp5, rfl⟩ := owns_form hown5))
  rw [HN.out] at hown5
  have hk5 : Keeps (w.alloc (.cells #[.int .i64 a, .int .i64 b, .int .i64 c] 22)) w5 [] := Keeps.of_grown hg5 (fun k hk => by simp [Value.ownBlock] at hk)
  have hfin := HF.out _ w5 hown5 hk5
  rw [← HN.out] at hfin
  go_ret
  exact hfin

end Go.Proofs.Ytldbiohahkcpnaa
