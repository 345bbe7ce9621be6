/- The walks of the statements' plain helpers: Among, Bytes, SameBytes. -/
import Derived.Test.YtfieggpoofemmaaRing6
namespace Go.Proofs.Ytfieggpoofemmaa
open Go Go.RowKit
set_option linter.unusedVariables false

/-- Among: the number made one from 0 to m - 1. -/
def among (n : Int) (m : Int) : Int := (n % 18446744073709551616) % m

theorem among_range (n m : Int) (hm : 0 < m) : 0 ≤ among n m ∧ among n m < m := ⟨Int.emod_nonneg _ (by omega), Int.emod_lt_of_pos _ hm⟩

theorem among_any (n m : Int) (w : World) (h0 : 0 < m) (h1 : m ≤ 9223372036854775807) : Calls Try.prog 10 #[.int .i64 n, .int .i64 m] w fun e w' => e = .returned (.int .i64 (among n m)) ∧ w = w' := by
  have hr := among_range n m h0
  go_enter Try.func10, Try.ntmps10
  go_wp2
  go_ret
  refine ⟨ret_int ?_, rfl⟩
  have e1 : (IntKind.u64.wrap n).tmod m = among n m := by
    rw [IntKind.wrap_u64, Int.tmod_eq_emod_of_nonneg (Int.emod_nonneg _ (by omega))]; rfl
  rw [e1]
  exact IntWalk.wrap64_in _ (by omega)

theorem strB_toList (xs : List UInt8) : (strB xs).toList = xs := by
  rw [ByteArray.toList_eq]; rfl

theorem sameBytes_any (a b : Value) (xs ys : List UInt8) (w : World) (ha : Rd w a xs) (hb : Rd w b ys) : Calls Try.prog 20 #[a, b] w fun e w' => e = .returned (.bool (xs == ys)) ∧ w = w' := by
  have h1 := run_string_of (P := Try.prog) ha 30 5 9 Try.underlying30 Try.underlying5 Try.underlying9
  have h2 := run_string_of (P := Try.prog) hb 30 5 9 Try.underlying30 Try.underlying5 Try.underlying9
  clear ha hb
  go_enter Try.func20, Try.ntmps20
  go_wp2
  go_ret
  exact ⟨by rw [← strB_toList xs, ← strB_toList ys]; simp only [strB_toList]; rfl, rfl⟩

/-- Bytes: a copy, in new memory. -/
theorem bytes_any (v : Value) (bs : List UInt8) (w : World) (hv : Rd w v bs) (hl : bs.length ≤ 140737488355328) : Calls Try.prog 22 #[v] w fun e w' => ∃ u, e = .returned u ∧ Own w' w.heap.size 5 1 u bs.length (bs.map byteV) ∧ u ≠ .slice none 0 0 ∧ Upd [] w w' := by
  obtain ⟨ao, c, rfl, hlc, hc, hnil, hsome⟩ := hv
  go_enter Try.func22, Try.ntmps22
  go_wp2_with (with_reducible refine wpList_append_gen rfl (.tmp 3) (.tmp 4) 30 30 rfl 5 (.int .u8 0) 1 1 Try.underlying30 Try.info5 rfl w.heap.size ?a1 _ 0 [] rfl ?a2 _ bs.length (bs.map byteV) rfl ?a3 ?a4 ?a5 ?a6)
  case a1 => simp
  case a2 => exact ⟨rfl, Or.inr ⟨w.heap.size, 0, 0, [], [], rfl, by omega, by simpa using blk_new w 5 [], rfl, by simp, Nat.le_refl _, by decide⟩⟩
  case a3 =>
    cases ao with
    | none =>
      have h0 := hnil rfl
      have hb : bs = [] := List.eq_nil_of_length_eq_zero (by omega)
      subst hb
      exact Src.ofNil _ Try.underlying30 c
    | some ad =>
      obtain ⟨hsp, hcell⟩ := hsome ad rfl
      refine Src.ofSlice _ Try.underlying30 ad bs.length c _ (by simp) (fun j u hj => ?_) (bytesV_one bs)
      have := hcell j u hj
      have hsp := hsp (fun h0 => by subst h0; simp at hj)
      obtain ⟨b, o, sp⟩ := ad
      simp only at hsp
      subst hsp
      rw [addr_add, World.cell?_alloc_lt _ _ _ (World.block_lt_of_cell? w _ this)]
      exact this
  case a4 => unfold maxLen; omega
  case a5 => omega
  case a6 =>
    intro v' w1 hown hU hblk hnil' hoff
    go_wp2_with fail
    go_ret
    refine ⟨v', rfl, by simpa using hown, hnil', ((Upd.refl [] w).alloc _).trans (fun k hk => Or.inr (by simp [Value.ownBlock] at hk; omega)) hU⟩
end Go.Proofs.Ytfieggpoofemmaa
