/-
  Walks over package dict: first, Raw; the reference's Plain.
-/
import Derived.Test.YtcmagccfagijlaaGreatDA
import Derived.Test.YtcmagccfagijlaaGreatDS
import Derived.Laws.EntriesVeiled
namespace Go.Proofs.YtcmagccfagijlaaGreat
set_option linter.unusedVariables false
set_option linter.unusedSimpArgs false
set_option linter.unusedSectionVars false
open Go.RowKit

abbrev nilV : Value := .slice none 0 0
abbrev tblV (g : Int) (n : Value) : Value := .agg #[.int .i64 g, n]
abbrev repV (a b c : Int) : Value := .agg #[.int .i64 a, .int .i64 b, .int .i64 c]
/-- The cells of a dictionary. -/
abbrev dictC (id : Int) (t : Value) (g1 : Int) (n1 : Value) (g2 : Int) (n2 : Value) (g3 : Int) (n3 : Value) (a b c : Int) (x : Value) : Array Value :=
  #[.int .u32 id, t, .int .i64 g1, n1, .int .i64 g2, n2, .int .i64 g3, n3, .int .i64 a, .int .i64 b, .int .i64 c, x]
abbrev rawC (x : Value) : Array Value := dictC 0 nilV 0 nilV 0 nilV 0 nilV 1 4 8 x
abbrev zeroC : Array Value := dictC 0 nilV 0 nilV 0 nilV 0 nilV 0 0 0 nilV

theorem dict_size : (Tryz.prog.info? 32).map (·.size) = some 12 := by kernel_rfl
theorem load_dict {w : World} {b : Nat} {cs : Array Value} (h : Blk w b cs 32) (hs : cs.size = 12) : (loadVar 32 ⟨b, 0, none⟩).run Tryz.prog w = .ok (.agg cs) w :=
  load_blk h Tryz.underlying32 rfl (by rw [dict_size, hs])

set_option maxRecDepth 100000 in
theorem first_any (w : World) : Calls Tryz.prog 32 #[] w fun e w' => e = .returned (repV 1 4 8) ∧ Keeps w w' [] := by
  go_enter Tryz.func32, Tryz.ntmps32
  go_wp2_with fail
  refine bodyPost_ret (v := repV 1 4 8) (by simp only [results, Tryz.results32]; go_simp) rfl ⟨rfl, (Keeps.refl _ _).alloc _⟩

set_option maxRecDepth 100000 in
set_option maxHeartbeats 4000000 in
theorem raw_no (v : Value) (l : List Int) (w : World) (hv : RdI .u8 w v l) (hl : ∀ x ∈ l, 0 ≤ x ∧ x ≤ 255) (hm : markB l = true) :
    Calls Tryz.prog 12 #[v] w fun e w' => e = .returned (.tuple #[.agg zeroC, .int .i64 9]) ∧ Keeps w w' [] := by
  have HM := Lib.hid (fun w1 (k : Keeps w w1 []) => marked_any v l w1 (hv.keeps k) hl)
  rw [hm] at HM
  obtain ⟨A0, n, c, rfl, -, -⟩ := hv.form
  clear hv hl hm
  go_enter Tryz.func12, Tryz.ntmps12
  go_wp2_with (first
    | (go_at_call 31; go_loud (refine (HM.out _ ((Keeps.refl _ _).alloc _)).mono ?_; rintro e w1 ⟨rfl, k1⟩; have hb := (Blk.new w zeroC 32).keeps k1 (by simp)))
    | (refine wpList_store_blk rfl 32 _ _ rfl w.heap.size zeroC rfl rfl _ _ hb dict_size rfl (by simp [Value.oneCell']) ?_; intro W2 hb2 k2))
  refine bodyPost_ret (v := .tuple #[.agg zeroC, .int .i64 9]) (res_cell_tmp rfl rfl rfl (load_dict hb2 rfl)) rfl ⟨rfl, ?_⟩
  exact (((Keeps.refl w []).alloc _).then k1).trans k2 (fun j hj hlt => by simp at hj; omega)

set_option maxRecDepth 100000 in
set_option maxHeartbeats 4000000 in
theorem raw_yes (v : Value) (l : List Int) (w : World) (hv : RdI .u8 w v l) (hl : ∀ x ∈ l, 0 ≤ x ∧ x ≤ 255) (hn : l.length ≤ 1000000) (hm : markB l = false) :
    Calls Tryz.prog 12 #[v] w fun e w' => ∃ x, e = .returned (.tuple #[.agg (rawC x), .int .i64 0]) ∧ RdI .u8 w' x l ∧ Fresh w.heap.size x ∧ Keeps w w' [] := by
  have HM := Lib.hid (fun w1 (k : Keeps w w1 []) => marked_any v l w1 (hv.keeps k) hl)
  rw [hm] at HM
  have HC := Lib.hid (fun w1 (k : Keeps w w1 []) => cloneb_any v l w1 (hv.keeps k) hn)
  have hbig : decide ((134217728 : Int) < (l.length : Int)) = false := decide_eq_false (by omega)
  obtain ⟨A0, n, c, rfl, rfl, -⟩ := hv.form
  clear hv hl hm hn
  generalize hN : l.length = N at *
  have HN := Lib.hid hN
  clear hN
  go_enter Tryz.func12, Tryz.ntmps12
  go_wp2_with (first
    | (go_at_call 31; go_loud (refine (HM.out _ ((Keeps.refl _ _).alloc _)).mono ?_; rintro e w1 ⟨rfl, k1⟩; have hb := (Blk.new w zeroC 32).keeps k1 (by simp); have kw1 := ((Keeps.refl w []).alloc _).then k1))
    | (go_at_call 32; go_loud (refine (first_any _).mono ?_; rintro e w2 ⟨rfl, k2⟩; have hb2 := hb.keeps k2 (by simp); have kw2 := kw1.then k2))
    | (go_at_call 33; go_loud (refine (HC.out _ kw2).mono ?_; rintro e w3 ⟨v3, rfl, own3, k3⟩; rw [OwnB, HN.out] at own3; obtain ⟨a3, c3, rfl⟩ := own_form own3; have hb3 := hb2.keeps k3 (by simp); have kw3 := kw2.then k3))
    | (refine wpList_store_blk rfl 32 _ _ rfl w.heap.size (rawC (.slice a3 N c3)) rfl rfl _ _ hb3 dict_size rfl (by simp [Value.oneCell']) ?_; intro W4 hb4 k4))
  have hs := kw2.size
  have hlb := hb2.lt
  have own4 : OwnB W4 w2.heap.size (.slice a3 l.length c3) l := own_moved (by rw [OwnB, HN.out]; exact own3) (fun g hg => k4.block g (by rw [HN.out] at hg; exact (own3.lt g hg).2) (by rw [HN.out] at hg; have := (own3.lt g hg).1; simp; omega))
  have R4 := own_reads own4
  have F4 := own_freshB own4
  rw [HN.out] at R4 F4
  refine bodyPost_ret (v := .tuple #[.agg (rawC (.slice a3 N c3)), .int .i64 0]) (res_cell_tmp rfl rfl rfl (load_dict hb4 rfl)) rfl ⟨_, rfl, R4, F4.mono hs, kw3.trans k4 (fun j hj hlt => by simp at hj; omega)⟩

set_option maxRecDepth 100000 in
set_option maxHeartbeats 4000000 in
theorem r_plain (v : Value) (l : List Int) (w : World) (hv : RdI .u8 w v l) (hn : l.length ≤ 1000000) :
    Calls Tryz.prog 16 #[v] w fun e w' => ∃ x, e = .returned (.agg (rawC x)) ∧ RdI .u8 w' x l ∧ Fresh w.heap.size x ∧ Keeps w w' [] := by
  obtain ⟨i0, hi, hz0, hz1, hz2⟩ := info_parts Tryz.infoByte
  have HV := Lib.hid (hv.keeps ((Keeps.refl w []).alloc (.cells zeroC 32)))
  have hb := Blk.new w zeroC 32
  obtain ⟨A0, n, c, rfl, rfl, -⟩ := hv.form
  have HO := Lib.hid (World.ownsRow_nil (w.alloc (.cells zeroC 32)) (w.heap.size + 1) 5 1)
  clear hv
  generalize hN : l.length = N at *
  have HN := Lib.hid hN
  clear hN
  go_enter Tryz.func16, Tryz.ntmps16
  go_wp2_with (first
    | (at_builtin; go_loud (refine wpList_appendI rfl _ _ 22 rfl (w.heap.size + 1) 5 i0 (.int .u8 0) 1 Tryz.underlying22 hi hz0 hz1 hz2 rfl (.slice none 0 0) 0 [] rfl HO.out _ rfl .u8 l HV.out (by rw [HN.out]; unfold maxLen; omega) (by rw [HN.out]; omega) (by simp) ?_; intro v3 w3 own3 g3 _; rw [HN.out, Nat.zero_add, List.nil_append] at own3; obtain ⟨a3, c3, rfl⟩ := own_form own3; have k3 := Keeps.of_grown (S := []) g3 (fun k hk => by simp [Value.ownBlock] at hk); have hb3 := hb.keeps k3 (by simp)))
    | (refine wpList_store_blk rfl 32 _ _ rfl w.heap.size (rawC (.slice a3 N c3)) rfl rfl _ _ hb3 dict_size rfl (by simp [Value.oneCell']) ?_; intro W4 hb4 k4))
  simp only [Act.put]
  have hs1 := k3.size
  simp only [World.size_alloc] at hs1
  have own4 : OwnB W4 (w.heap.size + 1) (.slice a3 l.length c3) l := own_moved (by rw [OwnB, HN.out]; exact own3) (fun g hg => k4.block g (by rw [HN.out] at hg; exact (own3.lt g hg).2) (by rw [HN.out] at hg; have := (own3.lt g hg).1; simp; omega))
  have R4 := own_reads own4
  have F4 := own_freshB own4
  rw [HN.out] at R4 F4
  refine bodyPost_ret (v := .agg (rawC (.slice a3 N c3))) (res_cell rfl rfl (load_dict hb4 rfl)) rfl ⟨_, rfl, R4, F4.mono (by omega), ((((Keeps.refl w []).alloc _).then k3).trans k4 (fun j hj hlt => by simp at hj; omega))⟩

end Go.Proofs.YtcmagccfagijlaaGreat
