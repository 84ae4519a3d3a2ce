/-
  Walks over package cells: Next.
-/
import Derived.Test.YtcmagccfagijlaaGreatQ21
namespace Go.Proofs.YtcmagccfagijlaaGreat
set_option linter.unusedVariables false
set_option linter.unusedSimpArgs false
set_option linter.unusedSectionVars false
open Go.RowKit

theorem mask_all : ∀ b : Fin 10, ∀ v : Fin 512, v.val < 2 ^ b.val → bits BinOp.and IntKind.u64 ((v.val : Nat) : Int) (IntKind.u64.wrap (IntKind.u64.wrap (2 ^ b.val) - 1)) = ((v.val : Nat) : Int) := by decide +kernel

set_option maxRecDepth 100000 in
set_option maxHeartbeats 2000000 in
theorem next_any (s b base v : Nat) (w : World) (hb : b ≤ 9) (hv : v < 2 ^ b) (hbase : base ≤ 1000) :
    Calls Tryz.prog 190 #[.agg #[.int .i64 (s : Int), .int .i64 (b : Int), .int .i64 (base : Int)], .int .u64 (v : Int)] w fun e w' => e = .returned (.int .i64 ((base + v : Nat) : Int)) ∧ Keeps w w' [] := by
  have h9 : 2 ^ b ≤ 512 := by
    have := Nat.pow_le_pow_right (n := 2) (by decide) hb
    rwa [show (2 : Nat) ^ 9 = 512 by decide] at this
  have hmask := mask_all ⟨b, by omega⟩ ⟨v, by omega⟩ hv
  simp only at hmask
  have k0 := (Keeps.refl w []).alloc (.cells #[.int .i64 (s : Int), .int .i64 (b : Int), .int .i64 (base : Int)] 212)
  have b0 := Blk.new w #[.int .i64 (s : Int), .int .i64 (b : Int), .int .i64 (base : Int)] 212
  have c1 := b0.cell 1
  have c2 := b0.cell 2
  simp at c1 c2
  have HRES : Hid (wrap64 ((base : Int) + wrap64 (bits BinOp.and IntKind.u64 (v : Int) (IntKind.u64.wrap (IntKind.u64.wrap (2 ^ (min (b : Int) 62).toNat) - 1)))) = ((base + v : Nat) : Int)) := by
    show _ = _
    rw [show (min (b : Int) 62).toNat = b by omega, hmask, IntWalk.wrap64_in (v : Int) ⟨by omega, by omega⟩, IntWalk.wrap64_in _ ⟨by omega, by omega⟩]
    omega
  clear hmask
  have hv5 : v < 512 := by omega
  clear hv h9 b0
  go_enter Tryz.func190, Tryz.ntmps190
  go_wp2_with fail
  go_quiet (fail)
  go_wp2_with fail
  go_ret
  exact ⟨by rw [← HRES.out]; rfl, k0.drewN _⟩


end Go.Proofs.YtcmagccfagijlaaGreat
