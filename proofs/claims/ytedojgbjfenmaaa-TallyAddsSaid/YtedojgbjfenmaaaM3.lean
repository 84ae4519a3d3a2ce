/-
  The law on sums: its walk.
-/
import Derived.Test.YtedojgbjfenmaaaU3
import Derived.Test.YtedojgbjfenmaaaU5
import Derived.Test.YtedojgbjfenmaaaAp
namespace Go.Proofs.Ytedojgbjfenmaaa
set_option linter.unusedVariables false
set_option linter.unusedSimpArgs false
set_option linter.unusedSectionVars false
open Go.RowKit

/-- The block of an owned row. -/
theorem own_block {w : World} {base n : Nat} {e : TypeId} {size : Nat} {v : Value} {xs : List Value} (h : w.ownsRow base e size v n xs) : ∀ ad m cp, v = .slice (some ad) m cp → base ≤ ad.block ∧ ad.block < w.heap.size := by
  intro ad m cp he
  subst he
  exact h.lt _ rfl

set_option maxHeartbeats 2000000 in
theorem law_adds (v1 v2 : Value) (a b : List Int) (w : World) (h1 : RdI .i64 w v1 a) (h2 : RdI .i64 w v2 b) :
    Calls Try.prog 8 #[v1, v2] w (LawEnd w) := by
  obtain ⟨A1, n1, c1, rfl, hn1, -⟩ := h1.form
  obtain ⟨A2, n2, c2, rfl, hn2, -⟩ := h2.form
  by_cases hb1 : 400 < n1
  · clear h1 h2 hn1 hn2
    have h1 : (400 : Int) < (n1 : Int) := by omega
    go_enter Try.func8, Try.ntmps8
    go_wp2_with (go_at_call 13; refine (works_true _).mono ?_; rintro e w5 ⟨rfl, kk⟩)
    go_ret
    exact ⟨rfl, kk.below⟩
  have hd1 : decide ((400 : Int) < (n1 : Int)) = false := by simp; omega
  by_cases hb2 : 400 < n2
  · clear h1 h2 hn1 hn2
    have h1 : (400 : Int) < (n2 : Int) := by omega
    go_enter Try.func8, Try.ntmps8
    go_wp2_with (go_at_call 13; refine (works_true _).mono ?_; rintro e w5 ⟨rfl, kk⟩)
    go_ret
    exact ⟨rfl, kk.below⟩
  have hd2 : decide ((400 : Int) < (n2 : Int)) = false := by simp; omega
  have hna : a.length ≤ 400 := by omega
  have hnb : b.length ≤ 400 := by omega
  obtain ⟨i0, hi, hz0, hz1, hz2⟩ := info_parts Try.infoInt
  have H1 := Lib.hid h1
  have H2 := Lib.hid h2
  clear h1 h2 hn1 hn2 hb1 hb2
  go_enter Try.func8, Try.ntmps8
  go_wp2_with (first
    | (refine wpList_copyI rfl rfl rfl 26 3 _ _ _ rfl rfl rfl i0 (.int .i64 0) 8 Try.underlying26 hi hz0 hz1 hz2 rfl (.slice A1 n1 c1) (fun _ => rfl) (fun _ => rfl) (fun _ => rfl) .i64 a H1.out (by unfold maxLen; omega) (by omega) ?_; intro v0 vc wa owna ka nea; obtain ⟨ac, cc, rfl⟩ := own_form owna)
    | (refine wpList_copyI rfl rfl rfl 26 3 _ _ _ rfl rfl rfl i0 (.int .i64 0) 8 Try.underlying26 hi hz0 hz1 hz2 rfl (.slice A2 n2 c2) (fun _ => rfl) (fun _ => rfl) (fun _ => rfl) .i64 b (H2.out.keeps ka) (by unfold maxLen; omega) (by omega) ?_; intro v0' vd wb ownb kb neb; obtain ⟨ad, cd, rfl⟩ := own_form ownb))
  have k1 := ka.then kb
  have rc := (own_reads owna).keeps kb
  have rd := own_reads ownb
  have hcb := fun x m cp he => (own_block owna x m cp he).2
  have hdb := fun x m cp he => (own_block ownb x m cp he).2
  have hna' : a.length ≤ 1000000 := by omega
  have hnb' : b.length ≤ 1000000 := by omega
  have HRC := Lib.hid rc
  have HRD := Lib.hid rd
  have HCB := Lib.hid (fun x m cp he => Nat.lt_of_lt_of_le (hcb x m cp he) kb.size)
  have HDB := Lib.hid hdb
  have H1b := Lib.hid (H1.out.keeps k1)
  have H2b := Lib.hid (H2.out.keeps k1)
  have HW0 : Hid (∀ x m cp, .slice A1 n1 c1 = Value.slice (some x) m cp → 0 < m → x.block < w.heap.size) := fun x m cp he h0 => by
    cases he
    obtain ⟨bb, oo, e1, e2, -⟩ := H1.out.addr h0
    cases e1; exact e2
  have HW1 : Hid (∀ x m cp, .slice A2 n2 c2 = Value.slice (some x) m cp → 0 < m → x.block < w.heap.size) := fun x m cp he h0 => by
    cases he
    obtain ⟨bb, oo, e1, e2, -⟩ := H2.out.addr h0
    cases e1; exact e2
  clear owna ownb ka kb nea neb rc rd hcb hdb H1 H2 hna hnb
  refine (add_call _ _ a b wb HRC.out HRD.out hna' hnb').mono ?_
  intro e w1 hend
  cases hok : addOk a b with
  | false =>
    obtain ⟨rfl, kk1⟩ := hend.2 hok
    have HOK := Lib.hid hok
    clear hend hok
    go_wp2_with fail
    refine (r_add _ _ a b w1 (H1b.out.keeps kk1) (H2b.out.keeps kk1) hna' hnb').mono ?_
    intro e w2 hend
    obtain ⟨rfl, kk2⟩ := hend.2 HOK.out
    have k2 := (k1.then kk1).then kk2
    have kc := kk1.then kk2
    have HC2 := Lib.hid (HRC.out.keeps kc)
    have HD2 := Lib.hid (HRD.out.keeps kc)
    have H12 := Lib.hid (H1b.out.keeps kc)
    have H22 := Lib.hid (H2b.out.keeps kc)
    clear hend kk1 kk2 kc
    go_wp2_with fail
    refine (same_yes _ _ [] _ .nil .nil (by decide)).mono ?_
    rintro e w3 ⟨rfl, nd, rfl⟩
    go_wp2_with (first | (go_at_call 19; refine (num_any _ _).mono ?_; rintro e w' ⟨rfl, rfl⟩))
    refine wp_loop_rounds 1 ?_
    rw [rounds_succ]
    go_wp2_with fail
    refine (same_yes _ _ a _ (H12.out.drewN nd) (HC2.out.drewN nd) hna').mono ?_
    rintro e w4 ⟨rfl, nd2, rfl⟩
    go_wp2_with fail
    refine (same_yes _ _ b _ (H22.out.drewN (nd + nd2)) (HD2.out.drewN (nd + nd2)) hnb').mono ?_
    rintro e w5 ⟨rfl, nd3, rfl⟩
    go_wp2_with (go_at_call 13; refine (works_true _).mono ?_; rintro e w5 ⟨rfl, kk⟩)
    go_ret
    exact ⟨rfl, ((k2.drewN _).then kk).below⟩
  | true =>
    obtain ⟨vl, rfl, ownl, kk1⟩ := hend.1 hok
    have HOK := Lib.hid hok
    clear hend hok
    obtain ⟨al, cl, rfl⟩ := own_form ownl
    go_wp2_with fail
    refine (r_add _ _ a b w1 (H1b.out.keeps kk1) (H2b.out.keeps kk1) hna' hnb').mono ?_
    intro e w2 hend
    obtain ⟨vw, rfl, ownw, kk2⟩ := hend.1 HOK.out
    obtain ⟨aw, cw, rfl⟩ := own_form ownw
    have hlen : (addL a b).length ≤ 1000000 := by rw [addL_len]; omega
    have k2 := (k1.then kk1).then kk2
    have kc := kk1.then kk2
    have HC2 := Lib.hid (HRC.out.keeps kc)
    have HD2 := Lib.hid (HRD.out.keeps kc)
    have H12 := Lib.hid (H1b.out.keeps kc)
    have H22 := Lib.hid (H2b.out.keeps kc)
    have ownl2 := own_keeps ownl kk2
    have rl := Lib.hid (own_reads ownl2)
    have rw_ := Lib.hid (own_reads ownw)
    have hwb := k1.size
    clear hend kk1 kk2 kc ownl ownw
    go_wp2_with fail
    refine (same_yes _ _ (addL a b) _ rl.out rw_.out hlen).mono ?_
    rintro e w3 ⟨rfl, nd, rfl⟩
    obtain ⟨n, hn⟩ : ∃ n, n = (addL a b).length := ⟨_, rfl⟩
    rw [← hn] at ownl2 hlen ⊢
    have hxl : ((addL a b).map (Value.int .i64)).length = n := by rw [List.length_map, hn]
    obtain ⟨xs, hxs⟩ : ∃ xs, xs = (addL a b).map (Value.int .i64) := ⟨_, rfl⟩
    rw [← hxs] at ownl2 hxl
    have HXL := Lib.hid hxl
    clear hn hxs rl rw_ hxl
    go_wp2_with (first | (go_at_call 19; refine (num_any _ _).mono ?_; rintro e w' ⟨rfl, rfl⟩))
    go_loopw [12] (fun i wr => ∃ (k : Nat) (ys : List Value), k ≤ n ∧ i = .int .i64 k ∧ Hid (ys.length = n) ∧ wr.ownsRow wb.heap.size 3 1 (.slice al n cl) n ys ∧ (∀ g, Value.ownBlock (.slice al n cl) = some g → Keeps (w2.drewN nd) wr [g]) ∧ (Value.ownBlock (.slice al n cl) = none → Keeps (w2.drewN nd) wr [])) (fun i _ => n - (intOf i).toNat)
    case atStart => exact ⟨0, xs, Nat.zero_le _, rfl, HXL, ownl2, fun g _ => Keeps.refl _ _, fun _ => Keeps.refl _ _⟩
    case round =>
      obtain ⟨k, ys, hk, rfl, hys, own, kg, kn⟩ := hrel
      by_cases hlt : k < n
      · obtain ⟨g, rfl⟩ : ∃ g, al = some ⟨g, 0, none⟩ := by
          rcases own.2 with ⟨h1, h2⟩ | ⟨g, cap, cur, h1, -⟩
          · omega
          · cases h1; exact ⟨_, rfl⟩
        have hcap6 : n ≤ cl := by
          rcases own.2 with ⟨h1, h2⟩ | ⟨g', cap, cur, h1, -, -, h4, -⟩
          · cases h1
          · cases h1; exact h4
        obtain ⟨y, hy⟩ : ∃ y, ys[k]? = some y := ⟨_, List.getElem?_eq_getElem (by have := hys.out; omega)⟩
        have hc := (own.cellAt k (by omega)).trans hy
        have hf := own.frozenAt k
        have hkn : (k : Int) < (n : Int) := by omega
        have hk0 : (0 : Int) ≤ (k : Int) := Int.natCast_nonneg _
        have hown2 := fun u => (own.stored k u).1
        have hkg := kg g rfl
        have HK2 := Lib.hid (fun u => hkg.setCell (a := ⟨g, k, none⟩) (.inr (by simp)) u)
        clear hy kg kn hkg
        go_wp2_with fail
        go_roundw
        case rel => exact ⟨k + 1, ys.set k _, by omega, by go_num, by show _ = _; rw [List.length_set]; exact hys.out, hown2 _, (fun g' hg' => by cases hg'; exact HK2.out _), (fun h => by cases h)⟩
        case measure => simp [intOf]; omega
      · have : k = n := by omega
        subst this
        obtain ⟨G, hG, kG⟩ : ∃ G : List Nat, (∀ x ∈ G, wb.heap.size ≤ x) ∧ Keeps (w2.drewN nd) wr G := by
          cases hb : Value.ownBlock (.slice al k cl) with
          | none => exact ⟨[], by simp, kn hb⟩
          | some g => exact ⟨[g], fun x hx => by have := List.mem_singleton.1 hx; subst this; exact (own.lt _ hb).1, kg g hb⟩
        have hGb : ∀ x, x < wb.heap.size → x ∉ G := fun x hx hm => by have := hG x hm; omega
        have r1 := (H12.out.drewN nd).keepsS kG (fun ad m cp he h0 => hGb _ (Nat.lt_of_lt_of_le (HW0.out ad m cp he h0) hwb))
        have r2 := (H22.out.drewN nd).keepsS kG (fun ad m cp he h0 => hGb _ (Nat.lt_of_lt_of_le (HW1.out ad m cp he h0) hwb))
        have r3 := (HC2.out.drewN nd).keepsS kG (fun ad m cp he h0 => hGb _ (HCB.out ad m cp he))
        have r4 := (HD2.out.drewN nd).keepsS kG (fun ad m cp he h0 => hGb _ (HDB.out ad m cp he))
        have kf : Keeps w wr [] := (k2.drewN nd).trans kG (fun x hx hlt => by have := hG x hx; omega)
        have R1 := Lib.hid r1
        have R2 := Lib.hid r2
        have R3 := Lib.hid r3
        have R4 := Lib.hid r4
        clear r1 r2 r3 r4 hG kG hGb own kg kn
        go_wp2_with fail
        refine (same_yes _ _ a _ R1.out R3.out hna').mono ?_
        rintro e w4 ⟨rfl, nd2, rfl⟩
        go_wp2_with fail
        refine (same_yes _ _ b _ (R2.out.drewN nd2) (R4.out.drewN nd2) hnb').mono ?_
        rintro e w5 ⟨rfl, nd3, rfl⟩
        go_wp2_with (go_at_call 13; refine (works_true _).mono ?_; rintro e w5 ⟨rfl, kk⟩)
        go_ret
        exact ⟨rfl, ((kf.drewN _).then kk).below⟩

end Go.Proofs.Ytedojgbjfenmaaa
