/- TopCaches: an answer that one client got comes to the next one byte for byte: true for every text and every number. The row. -/
import Derived.Test.YtnllmelmmcapcaaGreatDoorRows
import Derived.Test.YtnllmelmmcapcaaGreatDoorCaY
import Derived.Test.YtnllmelmmcapcaaGreatDoorCaO
import Derived.Test.YtnllmelmmcapcaaGreatDoorCaP0
import Derived.Test.YtnllmelmmcapcaaGreatDoorCaP1
import Derived.Test.YtnllmelmmcapcaaGreatDoorCaP2
import Derived.Test.YtnllmelmmcapcaaGreatDoorCaP3
import Derived.Test.YtnllmelmmcapcaaGreatDoorCaQ0
import Derived.Test.YtnllmelmmcapcaaGreatDoorCaQ1
import Derived.Test.YtnllmelmmcapcaaGreatDoorCaQ2
import Derived.Test.YtnllmelmmcapcaaGreatDoorCaQ3
import Derived.ChangeMaps5
import Derived.ProofKit
import Derived.OpenShut
import Derived.ShutString
import Derived.HandedShaped
import Derived.LaidMore
import Derived.Lay
import Derived.Lib.LaidU8
import Derived.Stop.Joined
import Derived.Test.YtnllmelmmcapcaaGreatDoorCbK0
import Derived.Test.YtnllmelmmcapcaaGreatDoorCbK1
import Derived.Test.YtnllmelmmcapcaaGreatDoorCbK2
import Derived.Test.YtnllmelmmcapcaaGreatDoorCbK3
namespace Go.Proofs.YtnllmelmmcapcaaGreatDoor.topCaches
open Go
set_option linter.unusedVariables false
theorem and_t {a b : Bool} (ha : a = true) (hb : b = true) : (a && b) = true := by subst ha hb; rfl
set_option maxRecDepth 100000 in
theorem closed : joinedFacts Tryz.prog 3 Tryz.f3 Rows.topCachesSpec Rows.topCachesRow = true := by
  unfold joinedFacts
  exact and_t (and_t (and_t (and_t (and_t (and_t (and_t (and_t (and_t (and_t (and_t (and_t (and_t (and_t (and_t (and_t (and_t (and_t (and_t (and_t (and_t (and_t (and_t (and_t (and_t (and_t (and_t (and_t (and_t (and_t (and_t (k0) k1) k2) k3) k4) k5) k6) k7) k8) k9) k10) k11) k12) k13) k14) k15) k16) k17) k18) k19) k20) k21) k22) k23) k24) k25) k26) k27) (by kernel_rfl)) k29) k30) k31
theorem fitsInst : Tryz.f3.isInstance Tryz.prog Rows.topCachesRow.origin Rows.topCachesRow.targs := of_decide_eq_true (by kernel_rfl)
theorem fitsWrap : Tryz.f3.isWrapper Tryz.prog Rows.topCachesRow.wrapper Rows.topCachesRow.mainSum := by
  unfold Func.isWrapper; first | (rw [if_pos (by decide +kernel)]; kernel_rfl) | (rw [if_neg (by decide +kernel)]; exact ⟨rfl, rfl⟩)
theorem named3 : Tryz.prog.funcNamed Rows.topCachesRow.func = some 3 := by kernel_rfl
end Go.Proofs.YtnllmelmmcapcaaGreatDoor.topCaches
namespace Go.Proofs.YtnllmelmmcapcaaGreatDoor.topCaches
open Go.ChangeShapes Go.WideShapes Go.ChangeAt Go.RowKit
open Ev
open Go.ChangeMaps (open_string shut_string)
set_option linter.unusedVariables false

theorem own : ownKnob Tryz.prog.godebug = none := by kernel_rfl

/-- The cells of a variable that is laid as an array of numbers. -/
theorem arr_cell {W : World} {name : String} {g t n e : Nat} {k : IntKind} {zs : List Int} (h : Lib.VarReads Tryz.prog W name (.agg (zs.map fun z => .lit (.int k z)))) (h1 : Tryz.prog.globalNamed name = some g)
    (h2 : (Tryz.prog.globals[g]?).map (·.type) = some t) (h3 : Tryz.prog.underlying t = some (.array n e)) (h4 : Tryz.prog.cellsOf e = 1) (h5 : Tryz.prog.underlying e = some (.int k)) (r : Nat) (z : Int) (hr : zs[r]? = some z) : W.cell? ⟨g, r, none⟩ = some (.int k z) := by
  obtain ⟨g', t', cs, fuel, p, hg, ht, hv, hd⟩ := h
  obtain rfl := Option.some.inj (h1.symm.trans hg)
  obtain rfl := Option.some.inj (h2.symm.trans ht)
  obtain ⟨xs, m, _, ex, _, hl, hel⟩ := DataW.trod_array h3 hd
  have e3 : (xs.map (·.1)) = zs.map fun z => .lit (.int k z) := (DataW.agg.inj (Prod.mk.inj ex).1).symm
  have hlen : xs.length = zs.length := by have := congrArg List.length e3; simpa using this
  have hrl : r < zs.length := (List.getElem?_eq_some_iff.1 hr).1
  have hE := hel r (by omega)
  rw [h4, Nat.mul_one, List.getElem?_eq_getElem (by omega)] at hE
  obtain ⟨z', e1, e2, _⟩ := DataW.trod_int h5 hE
  have e4 : (xs.map (·.1))[r]? = (zs.map fun z => (DataW.lit (.int k z) : DataW Unit))[r]? := by rw [e3]
  rw [List.getElem?_map, List.getElem?_map, List.getElem?_eq_getElem (by omega : r < xs.length), hr, e2] at e4
  have hz : z' = z := by simpa using e4
  rw [World.var?_cell hg hv r, ← hz]
  have : cs.toList[r]? = some (.int k z') := by
    have h0 : ((cs.toList.drop r).take 1)[0]? = some (.int k z') := by rw [e1]; rfl
    simpa using h0
  simpa using this

def powZ : List Int := (List.range 20).map fun i => (10 : Int) ^ i
theorem pow_laid : (Rows.laid_internal_strconv_uint64pow10 : DataW Unit) = .agg (powZ.map fun z => .lit (.int .u64 z)) := by kernel_rfl
theorem pow_av : pows = powZ.map fun z => AV.int .u64 z := by kernel_rfl
noncomputable def lowZ : List Int := lows.map fun v => match v with | .int _ z => z | _ => 0
theorem low_laid : (Rows.laid_math_bits_deBruijn64tab : DataW Unit) = .agg (lowZ.map fun z => .lit (.int .u8 z)) := by kernel_rfl
theorem low_av : lows = lowZ.map fun z => AV.int .u8 z := by kernel_rfl

/-- How deep a tree is. -/
def deep : Tr (List AV) → Nat
  | .lf => 0
  | .nd l _ r => Nat.max (deep l) (deep r) + 1
theorem deep_none : ∀ (d : Nat) (t : Tr (List AV)) (k : Nat), deep t ≤ d → 2 ^ d - 1 ≤ k → t.get k = none
  | _, .lf, k, _, _ => by cases k <;> rfl
  | 0, .nd l o r, k, h, _ => by simp [deep] at h
  | d + 1, .nd l o r, k, h, hk => by
    have h1 : deep l ≤ d ∧ deep r ≤ d := by
      have h : Nat.max (deep l) (deep r) + 1 ≤ d + 1 := h
      have := Nat.le_max_left (deep l) (deep r)
      have := Nat.le_max_right (deep l) (deep r)
      have e : Nat.max (deep l) (deep r) = max (deep l) (deep r) := rfl
      omega
    have hp : 1 ≤ 2 ^ d := Nat.one_le_two_pow
    have e2 : 2 ^ (d + 1) = 2 * 2 ^ d := by rw [Nat.pow_succ]; omega
    obtain ⟨m, rfl⟩ : ∃ m, k = m + 1 := ⟨k - 1, by omega⟩
    rw [Tr.get]
    split
    · exact deep_none d l _ h1.1 (by omega)
    · exact deep_none d r _ h1.2 (by omega)

theorem gg_get {g : Nat} {l : List AV} (h : GG.get g = some l) : (g = 1 ∧ l = pows) ∨ (g = 9 ∧ l = lows) ∨ (g = 4 ∧ l = []) := by
  have small : g < 20 := by
    rcases Nat.lt_or_ge g 20 with h' | h'
    · exact h'
    · exfalso
      obtain ⟨m, rfl⟩ : ∃ m, g = m + 1 := ⟨g - 1, by omega⟩
      have big : ∀ (t : Tr (List AV)) (k : Nat), deep t ≤ 4 → 15 ≤ k → t.get k = none := fun t k h1 h2 => deep_none 4 t k h1 (by omega)
      have := big GG (m + 1) (by decide +kernel) (by omega)
      rw [this] at h; cases h
  match g, h with
  | 1, h => simp [GG, Tr.get] at h; exact .inl ⟨rfl, h.symm⟩
  | 9, h => simp [GG, Tr.get] at h; exact .inr (.inl ⟨rfl, h.symm⟩)
  | 4, h => simp [GG, Tr.get] at h; exact .inr (.inr ⟨rfl, h⟩)
  | 0, h => simp [GG, Tr.get] at h
  | 2, h => simp [GG, Tr.get] at h
  | 3, h => simp [GG, Tr.get] at h
  | 5, h => simp [GG, Tr.get] at h
  | 6, h => simp [GG, Tr.get] at h
  | 7, h => simp [GG, Tr.get] at h
  | 8, h => simp [GG, Tr.get] at h
  | 10, h => simp [GG, Tr.get] at h
  | 11, h => simp [GG, Tr.get] at h
  | 12, h => simp [GG, Tr.get] at h
  | 13, h => simp [GG, Tr.get] at h
  | 14, h => simp [GG, Tr.get] at h
  | 15, h => simp [GG, Tr.get] at h
  | 16, h => simp [GG, Tr.get] at h
  | 17, h => simp [GG, Tr.get] at h
  | 18, h => simp [GG, Tr.get] at h
  | 19, h => simp [GG, Tr.get] at h
  | g + 20, _ => omega

theorem block_of_cell {W : World} {a : Addr} {v : Value} (h : W.cell? a = some v) : a.block < W.heap.size := by
  unfold World.cell? at h
  rcases Nat.lt_or_ge a.block W.heap.size with h' | h'
  · exact h'
  · rw [Array.getElem?_eq_none h'] at h; cases h

/-- What the row's conditions give. -/
theorem glob_ok {W : World} (hL : laidMetH Tryz.prog Rows.topCachesRow.laid W) (hsh : W.ShapedOpen Tryz.prog) : GlobOk GT W := by
  rw [MakeChecks.laidMetH_plain _ _ _ (by kernel_rfl)] at hL
  have r1 : Lib.VarReads Tryz.prog W "internal/strconv.uint64pow10" (.agg (powZ.map fun z => .lit (.int .u64 z))) := by
    rw [← pow_laid]
    exact Lib.laidMet.reads hL (.tail _ (.tail _ (.tail _ (.head _))))
  have r2 : Lib.VarReads Tryz.prog W "math/bits.deBruijn64tab" (.agg (lowZ.map fun z => .lit (.int .u8 z))) := by
    rw [← low_laid]
    exact Lib.laidMet.reads hL (.tail _ (.tail _ (.tail _ (.tail _ (.tail _ (.head _))))))
  have c1 := arr_cell (g := 1) (t := 329) (n := 20) (e := 73) r1 (by kernel_rfl) (by kernel_rfl) (by kernel_rfl) (by kernel_rfl) (by kernel_rfl)
  have c2 := arr_cell (g := 9) (t := 446) (n := 64) (e := 5) r2 (by kernel_rfl) (by kernel_rfl) (by kernel_rfl) (by kernel_rfl) (by kernel_rfl)
  obtain ⟨m, hm⟩ := Tryz.laysM219.s1_3 W hsh
  refine ⟨fun g l hg i v hv => ?_, fun g hg => ?_⟩
  · rcases gg_get hg with ⟨rfl, rfl⟩ | ⟨rfl, rfl⟩ | ⟨rfl, rfl⟩
    · rw [pow_av, List.getElem?_map] at hv
      obtain ⟨z, hz, rfl⟩ := Option.map_eq_some_iff.1 hv
      have := c1 i z hz
      exact ⟨by simp [AV.lt], block_of_cell this, fun ρ => by simp only [conc]; exact this⟩
    · rw [low_av, List.getElem?_map] at hv
      obtain ⟨z, hz, rfl⟩ := Option.map_eq_some_iff.1 hv
      have := c2 i z hz
      exact ⟨by simp [AV.lt], block_of_cell this, fun ρ => by simp only [conc]; exact this⟩
    · simp at hv
  · rcases gg_get hg with ⟨rfl, h⟩ | ⟨rfl, h⟩ | ⟨rfl, _⟩
    · simp [pows] at h
    · simp [lows] at h
    · exact ⟨block_of_cell hm, m, hm⟩

theorem all41 {p : Nat → Prop} (h0 : ∀ L, 0 ≤ L → L ≤ 10 → p L) (h1 : ∀ L, 11 ≤ L → L ≤ 20 → p L) (h2 : ∀ L, 21 ≤ L → L ≤ 30 → p L) (h3 : ∀ L, 31 ≤ L → L ≤ 40 → p L) (L : Nat) (hL : L ≤ 40) : p L := by
  by_cases a : L ≤ 10
  · exact h0 L (Nat.zero_le _) a
  by_cases b : L ≤ 20
  · exact h1 L (by omega) b
  by_cases c : L ≤ 30
  · exact h2 L (by omega) c
  exact h3 L (by omega) hL

theorem walk (a0 : ByteArray) (a1 : Int) (w : World) (hG : GlobOk GT w) : Calls Tryz.prog 3 #[.string a0, .int .i64 a1] w fun e w' => e = .returned (.bool true) ∧ Below w.heap.size w w' :=
  (caches_ev (all41 (p := fun L => ∀ g, kV1 L g = some ()) v1_0 v1_11 v1_21 v1_31) (all41 (p := fun L => ∀ g, kV2 L g = some ()) v2_0 v2_11 v2_21 v2_31) (fun L hL g => vF_0 L (Nat.zero_le _) hL g) vU1 vU2 vA a0 a1 w hG).mono fun e w' ⟨he, hu⟩ => ⟨he, hu.below (by simp)⟩

set_option maxRecDepth 100000 in
theorem lifted (os : Os) (started : os.Started) (H : Type) (enc : TypeId × Value → H) :
    ReturnsInHanded {} Tryz.checked os 3 .any (fun w args => (Rows.topCachesSpec.pre enc Tryz.prog Tryz.f3 Rows.topCachesRow.domain false w args ∧ laidMetH Tryz.prog Rows.topCachesRow.laid w) ∧ sizedMet enc Tryz.prog Tryz.f3 (OpenSpec.ofChange Rows.topCachesSpec) false w args)
      (Rows.topCachesSpec.post enc Tryz.prog Tryz.f3 false true false false) := by
  refine returnsInHanded_of_calls own started (by kernel_rfl)
    (ChangeSpec.witness_shaped (enc := enc) (C := Tryz.checked) (os := os) (X := fun w _ => laidMetH Tryz.prog Rows.topCachesRow.laid w) false (World.laidAll Tryz.prog os Rows.topCachesRow.laid) #[.string .empty, .int .i64 0] 8 (World.laidAll_os _ _ _)
      (World.shaped_of_ZipB (by kernel_rfl) (by kernel_rfl)) (by kernel_rfl) (by kernel_rfl) (by kernel_rfl)
      (by rw [MakeChecks.laidMetH_plain _ _ _ (by kernel_rfl)]; exact laidMet_laidAll _ (by kernel_rfl) (by kernel_rfl))) ?_
  intro w tape i _ hsh _ hok hpre hholds
  obtain ⟨_, _, _, fn', hfn', _, _, _, _, hval1⟩ := hok
  have e : fn' = Tryz.f3 := Option.some.inj (hfn'.symm.trans Tryz.func3)
  subst e
  obtain ⟨⟨⟨ds, gs, before, hw, hc⟩, hx⟩, hz⟩ := hpre
  have hW := DataW.Whole.of_heap (w' := w.forCall tape i) (by rfl) hw
  have hL : laidMetH Tryz.prog Rows.topCachesRow.laid (w.forCall tape i) := hx.of_heap (by rfl)
  have goal : Calls Tryz.prog 3 i.args (w.forCall tape i) fun e W' => ∃ v, e = .returned v ∧ Rows.topCachesSpec.post enc Tryz.prog Tryz.f3 false true false false (w.forCall tape i) i.args v W' := by
    generalize hWW : w.forCall tape i = W at hW hL hsh hval1
    generalize i.args = args at hW hval1
    have hval : ∀ (j : Nat) t v, Tryz.f3.params[j]? = some t → args[j]? = some v → Value.okWide Tryz.prog W .any w.heap.size t v := hval1
    have hW' := hW
    obtain ⟨p, q, hA0, hV, rfl, hfz, hnd⟩ := hW
    have hA : DataW.TrodAll enc Tryz.prog W 0 (fun _ => true) true Tryz.f3.params.toList args.toList ds p := hA0
    rw [Tryz.params3] at hA hval
    obtain ⟨v0, vs0, d0, ds0, p0, q0, hargs, rfl, rfl, h0, r0⟩ := trodAll_cons hA
    obtain ⟨v1, vs1, d1, ds1, p1, q1, rfl, rfl, rfl, h1, r1⟩ := trodAll_cons r0
    obtain ⟨rfl, rfl, rfl⟩ := trodAll_nil r1
    obtain rfl : args = #[v0, v1] := by cases args; simp_all
    obtain ⟨rfl, rfl⟩ := trodVars_none hV
    obtain ⟨a0, rfl, rfl, rfl, w0⟩ := open_string Tryz.underlying9 (hval 0 9 v0 rfl rfl) h0
    obtain ⟨a1, rfl, rfl, rfl, w1⟩ := open_int Tryz.underlying3 (hval 1 3 v1 rfl rfl) h1
    clear hA0
    simp only [List.append_nil] at hW'
    refine (walk a0 a1 W (glob_ok hL hsh)).mono fun e W' ⟨he, hg⟩ => ?_
    subst he
    exact ⟨_, rfl, _, _, _, [], _, [], hW', trodAll_mk1 (shut_bool Tryz.underlying4 _), (trodAll_cons_mk (shut_string Tryz.underlying9 w0) (trodAll_cons_mk (shut_int Tryz.underlying3 w1) trodAll_mk0)), rfl, hg.frame _, fun h => by cases h⟩
  refine goal.mono fun e W' ⟨v, he, hp⟩ => ?_
  subst he
  exact ChangeSpec.post_blind hp

theorem over : Rows.topCachesRow.holds Tryz.pinned (OpenSpec.ofChange Rows.topCachesSpec) :=
  OpenClaim.holds_of_wide 3 Tryz.f3 rfl rfl rfl rfl rfl rfl rfl ⟨rfl, rfl, rfl, rfl, rfl⟩ rfl rfl rfl rfl rfl named3 Tryz.func3 closed fitsInst fitsWrap
    (fun os started H enc _ => lifted os started H enc)
end Go.Proofs.YtnllmelmmcapcaaGreatDoor.topCaches
