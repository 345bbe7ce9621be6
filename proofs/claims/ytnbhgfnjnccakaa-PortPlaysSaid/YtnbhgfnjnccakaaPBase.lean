/- sallyportbase.SameBytes. -/
import Derived.Test.YtnbhgfnjnccakaaBase0
import Derived.Test.YtnbhgfnjnccakaaPort8
namespace Go.Proofs.Ytnbhgfnjnccakaa
open Go Go.RowKit
set_option linter.unusedVariables false

theorem strB_toList (xs : List UInt8) : (strB xs).toList = xs := by
  rw [ByteArray.toList_eq]; rfl

theorem sameBytes_any (a b : Value) (xs ys : List UInt8) (w : World) (ha : Rd w a xs) (hb : Rd w b ys) : Calls Try.prog 34 #[a, b] w fun e w' => e = .returned (.bool (xs == ys)) ∧ w = w' := by
  have h1 := run_string_of (P := Try.prog) ha 35 5 9 Try.underlying35 Try.underlying5 Try.underlying9
  have h2 := run_string_of (P := Try.prog) hb 35 5 9 Try.underlying35 Try.underlying5 Try.underlying9
  clear ha hb
  go_enter Try.func34, Try.ntmps34
  go_wp2
  go_ret
  exact ⟨by rw [← strB_toList xs, ← strB_toList ys]; simp only [strB_toList]; rfl, rfl⟩

end Go.Proofs.Ytnbhgfnjnccakaa
