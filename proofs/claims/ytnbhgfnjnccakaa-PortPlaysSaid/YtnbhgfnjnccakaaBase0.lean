/- sallyportbase.Among. -/
import Derived.Test.YtnbhgfnjnccakaaProg
import Derived.Test.YtnbhgfnjnccakaaMem
import Derived.BigQuiet
import Derived.WalkLawsBesides
import Derived.WalkSpells
namespace Go.Proofs.Ytnbhgfnjnccakaa
open Go Go.RowKit
set_option linter.unusedVariables false

def among (n : Int) (m : Int) : Int := (n % 18446744073709551616) % m

theorem among_range (n m : Int) (hm : 0 < m) : 0 ≤ among n m ∧ among n m < m := ⟨Int.emod_nonneg _ (by omega), Int.emod_lt_of_pos _ hm⟩

theorem among_any (n m : Int) (w : World) (h0 : 0 < m) (h1 : m ≤ 9223372036854775807) : Calls Try.prog 16 #[.int .i64 n, .int .i64 m] w fun e w' => e = .returned (.int .i64 (among n m)) ∧ w = w' := by
  have hr := among_range n m h0
  go_enter Try.func16, Try.ntmps16
  go_wp2
  go_ret
  refine ⟨ret_int ?_, rfl⟩
  have e1 : (IntKind.u64.wrap n).tmod m = among n m := by
    rw [IntKind.wrap_u64, Int.tmod_eq_emod_of_nonneg (Int.emod_nonneg _ (by omega))]; rfl
  rw [e1]
  exact IntWalk.wrap64_in _ (by omega)

end Go.Proofs.Ytnbhgfnjnccakaa
