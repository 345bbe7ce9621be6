/- TopRefuses: a tenant whose rules are taken away by a command is refused from the next frame on, and another one is not: true for every tenant, by SOCKS5 and by CONNECT. The row. -/
import Derived.Test.YtnllmelmmcapcaaGreatDoorRows
import Derived.Test.YtnllmelmmcapcaaGreatDoorTopE
import Derived.Test.YtnllmelmmcapcaaGreatDoorTopV0
import Derived.Test.YtnllmelmmcapcaaGreatDoorTopV1
import Derived.Test.YtnllmelmmcapcaaGreatDoorTopV2
import Derived.ProofKit
import Derived.OpenShut
import Derived.ShutString
import Derived.HandedShaped
import Derived.LaidMore
import Derived.Lay
import Derived.Lib.LaidU8
import Derived.Stop.Joined
import Derived.Test.YtnllmelmmcapcaaGreatDoorTopK0
import Derived.Test.YtnllmelmmcapcaaGreatDoorTopK1
import Derived.Test.YtnllmelmmcapcaaGreatDoorTopK2
import Derived.Test.YtnllmelmmcapcaaGreatDoorTopK3
namespace Go.Proofs.YtnllmelmmcapcaaGreatDoor.topRefuses
open Go
set_option linter.unusedVariables false
theorem and_t {a b : Bool} (ha : a = true) (hb : b = true) : (a && b) = true := by subst ha hb; rfl
set_option maxRecDepth 100000 in
theorem closed : joinedFacts Tryz.prog 4 Tryz.f4 Rows.topRefusesSpec Rows.topRefusesRow = true := by
  unfold joinedFacts
  exact and_t (and_t (and_t (and_t (and_t (and_t (and_t (and_t (and_t (and_t (and_t (and_t (and_t (and_t (and_t (and_t (and_t (and_t (and_t (and_t (and_t (and_t (and_t (and_t (and_t (and_t (and_t (and_t (and_t (and_t (and_t (k0) k1) k2) k3) k4) k5) k6) k7) k8) k9) k10) k11) k12) k13) k14) k15) k16) k17) k18) k19) k20) k21) k22) k23) k24) k25) k26) k27) (by kernel_rfl)) k29) k30) k31
theorem fitsInst : Tryz.f4.isInstance Tryz.prog Rows.topRefusesRow.origin Rows.topRefusesRow.targs := of_decide_eq_true (by kernel_rfl)
theorem fitsWrap : Tryz.f4.isWrapper Tryz.prog Rows.topRefusesRow.wrapper Rows.topRefusesRow.mainSum := by
  unfold Func.isWrapper; first | (rw [if_pos (by decide +kernel)]; kernel_rfl) | (rw [if_neg (by decide +kernel)]; exact ⟨rfl, rfl⟩)
theorem named4 : Tryz.prog.funcNamed Rows.topRefusesRow.func = some 4 := by kernel_rfl
end Go.Proofs.YtnllmelmmcapcaaGreatDoor.topRefuses
namespace Go.Proofs.YtnllmelmmcapcaaGreatDoor.topRefuses
open Go.ChangeShapes Go.WideShapes Go.ChangeAt Go.RowKit
open Ev
set_option linter.unusedVariables false

theorem own : ownKnob Tryz.prog.godebug = none := by kernel_rfl

/-- The cells of a variable that is laid as an array of numbers. -/
theorem arr_cell {W : World} {name : String} {g t n e : Nat} {k : IntKind} {zs : List Int} (h : Lib.VarReads Tryz.prog W name (.agg (zs.map fun z => .lit (.int k z)))) (h1 : Tryz.prog.globalNamed name = some g)
    (h2 : (Tryz.prog.globals[g]?).map (·.type) = some t) (h3 : Tryz.prog.underlying t = some (.array n e)) (h4 : Tryz.prog.cellsOf e = 1) (h5 : Tryz.prog.underlying e = some (.int k)) (r : Nat) (z : Int) (hr : zs[r]? = some z) : W.cell? ⟨g, r, none⟩ = some (.int k z) := by
  obtain ⟨g', t', cs, fuel, p, hg, ht, hv, hd⟩ := h
  obtain rfl := Option.some.inj (h1.symm.trans hg)
  obtain rfl := Option.some.inj (h2.symm.trans ht)
  obtain ⟨xs, m, _, ex, _, hl, hel⟩ := DataW.trod_array h3 hd
  have e3 : (xs.map (·.1)) = zs.map fun z => .lit (.int k z) := (DataW.agg.inj (Prod.mk.inj ex).1).symm
  have hlen : xs.length = zs.length := by have := congrArg List.length e3; simpa using this
  have hrl : r < zs.length := (List.getElem?_eq_some_iff.1 hr).1
  have hE := hel r (by omega)
  rw [h4, Nat.mul_one, List.getElem?_eq_getElem (by omega)] at hE
  obtain ⟨z', e1, e2, _⟩ := DataW.trod_int h5 hE
  have e4 : (xs.map (·.1))[r]? = (zs.map fun z => (DataW.lit (.int k z) : DataW Unit))[r]? := by rw [e3]
  rw [List.getElem?_map, List.getElem?_map, List.getElem?_eq_getElem (by omega : r < xs.length), hr, e2] at e4
  have hz : z' = z := by simpa using e4
  rw [World.var?_cell hg hv r, ← hz]
  have : cs.toList[r]? = some (.int k z') := by
    have h0 : ((cs.toList.drop r).take 1)[0]? = some (.int k z') := by rw [e1]; rfl
    simpa using h0
  simpa using this

def powZ : List Int := (List.range 20).map fun i => (10 : Int) ^ i
theorem pow_laid : (Rows.laid_internal_strconv_uint64pow10 : DataW Unit) = .agg (powZ.map fun z => .lit (.int .u64 z)) := by kernel_rfl
theorem pow_av : pows = powZ.map fun z => AV.int .u64 z := by kernel_rfl
noncomputable def rootZ : List Int := roots.map fun v => match v with | .int _ z => z | _ => 0
theorem root_laid : (Rows.laid_sallyport_digest_roots : DataW Unit) = .agg (rootZ.map fun z => .lit (.int .u32 z)) := by kernel_rfl
theorem root_av : roots = rootZ.map fun z => AV.int .u32 z := by kernel_rfl

theorem gg_get {g : Nat} {l : List AV} (h : GG.get g = some l) : (g = 1 ∧ l = pows) ∨ (g = 5 ∧ l = roots) ∨ (g = 4 ∧ l = []) := by
  match g, h with
  | 0, h => simp [GG, Tr.get] at h
  | 1, h => simp [GG, Tr.get] at h; exact .inl ⟨rfl, h.symm⟩
  | 2, h => simp [GG, Tr.get] at h
  | 3, h => simp [GG, Tr.get] at h
  | 4, h => simp [GG, Tr.get] at h; exact .inr (.inr ⟨rfl, h⟩)
  | 5, h => simp [GG, Tr.get] at h; exact .inr (.inl ⟨rfl, h.symm⟩)
  | g + 6, h =>
    exfalso
    unfold GG at h
    rw [Tr.get] at h
    split at h
    · obtain ⟨j, hj⟩ : ∃ j, (g + 5) / 2 = j + 1 + 1 := ⟨(g + 5) / 2 - 2, by omega⟩
      rw [hj, Tr.get] at h
      split at h
      · simp [Tr.get] at h
      · obtain ⟨i, hi⟩ : ∃ i, (j + 1) / 2 = i ∧ (i = 0 ∨ 0 < i) := ⟨_, rfl, by omega⟩
        rcases hi.2 with h0 | h0
        · omega
        · obtain ⟨i', rfl⟩ : ∃ i', i = i' + 1 := ⟨i - 1, by omega⟩
          rw [hi.1, Tr.get] at h
          split at h <;> simp [Tr.get] at h
    · obtain ⟨j, hj⟩ : ∃ j, (g + 5) / 2 = j + 1 + 1 := ⟨(g + 5) / 2 - 2, by omega⟩
      rw [hj, Tr.get] at h
      split at h
      · obtain ⟨i, hi⟩ : ∃ i, (j + 1) / 2 = i ∧ (i = 0 ∨ 0 < i) := ⟨_, rfl, by omega⟩
        rcases hi.2 with h0 | h0
        · omega
        · obtain ⟨i', rfl⟩ : ∃ i', i = i' + 1 := ⟨i - 1, by omega⟩
          rw [hi.1, Tr.get] at h
          split at h <;> simp [Tr.get] at h
      · simp [Tr.get] at h

theorem block_of_cell {W : World} {a : Addr} {v : Value} (h : W.cell? a = some v) : a.block < W.heap.size := by
  unfold World.cell? at h
  rcases Nat.lt_or_ge a.block W.heap.size with h' | h'
  · exact h'
  · rw [Array.getElem?_eq_none h'] at h; cases h

/-- What the row's conditions give. -/
theorem glob_ok {W : World} (hL : laidMetH Tryz.prog Rows.topRefusesRow.laid W) (hsh : W.ShapedOpen Tryz.prog) : GlobOk GG W := by
  rw [MakeChecks.laidMetH_plain _ _ _ (by kernel_rfl)] at hL
  have r1 : Lib.VarReads Tryz.prog W "internal/strconv.uint64pow10" (.agg (powZ.map fun z => .lit (.int .u64 z))) := by
    rw [← pow_laid]
    exact Lib.laidMet.reads hL (.tail _ (.tail _ (.tail _ (.head _))))
  have r2 : Lib.VarReads Tryz.prog W "sallyport/digest.roots" (.agg (rootZ.map fun z => .lit (.int .u32 z))) := by
    rw [← root_laid]
    exact Lib.laidMet.reads hL (.tail _ (.tail _ (.tail _ (.tail _ (.tail _ (.tail _ (.tail _ (.tail _ (.tail _ (.head _))))))))))
  have c1 := arr_cell (g := 1) (t := 329) (n := 20) (e := 73) r1 (by kernel_rfl) (by kernel_rfl) (by kernel_rfl) (by kernel_rfl) (by kernel_rfl)
  have c2 := arr_cell (g := 5) (t := 437) (n := 64) (e := 257) r2 (by kernel_rfl) (by kernel_rfl) (by kernel_rfl) (by kernel_rfl) (by kernel_rfl)
  obtain ⟨m, hm⟩ := Tryz.laysM219.s1_3 W hsh
  refine ⟨fun g l hg i v hv => ?_, fun g hg => ?_⟩
  · rcases gg_get hg with ⟨rfl, rfl⟩ | ⟨rfl, rfl⟩ | ⟨rfl, rfl⟩
    · rw [pow_av, List.getElem?_map] at hv
      obtain ⟨z, hz, rfl⟩ := Option.map_eq_some_iff.1 hv
      have := c1 i z hz
      exact ⟨by simp [AV.lt], block_of_cell this, fun ρ => by simp only [conc]; exact this⟩
    · rw [root_av, List.getElem?_map] at hv
      obtain ⟨z, hz, rfl⟩ := Option.map_eq_some_iff.1 hv
      have := c2 i z hz
      exact ⟨by simp [AV.lt], block_of_cell this, fun ρ => by simp only [conc]; exact this⟩
    · simp at hv
  · rcases gg_get hg with ⟨rfl, h⟩ | ⟨rfl, h⟩ | ⟨rfl, _⟩
    · simp [pows] at h
    · simp [roots] at h
    · exact ⟨block_of_cell hm, m, hm⟩

theorem walk (a0 : Int) (a1 : Bool) (w : World) (hG : GlobOk GG w) : Calls Tryz.prog 4 #[.int .i64 a0, .bool a1] w fun e w' => e = .returned (.bool true) ∧ Below w.heap.size w w' := by
  have hr := among_range a0 3 (by omega)
  have key : ∀ (r : Nat) (web : Bool), evTop r web = some () → among a0 3 = (r : Int) → Calls Tryz.prog 4 #[.int .i64 a0, .bool web] w fun e w' => e = .returned (.bool true) ∧ Below w.heap.size w w' := fun r web h hr =>
    (topRefuses_ev h w hG a0 hr).mono fun e w' ⟨he, hu⟩ => ⟨he, hu.below (by simp)⟩
  have h3 : among a0 3 = 0 ∨ among a0 3 = 1 ∨ among a0 3 = 2 := by omega
  cases a1 with
  | false => rcases h3 with h | h | h
             · exact key 0 false refuses0 h
             · exact key 1 false refuses2 h
             · exact key 2 false refuses4 h
  | true => rcases h3 with h | h | h
            · exact key 0 true refuses1 h
            · exact key 1 true refuses3 h
            · exact key 2 true refuses5 h

set_option maxRecDepth 100000 in
theorem lifted (os : Os) (started : os.Started) (H : Type) (enc : TypeId × Value → H) :
    ReturnsInHanded {} Tryz.checked os 4 .any (fun w args => (Rows.topRefusesSpec.pre enc Tryz.prog Tryz.f4 Rows.topRefusesRow.domain false w args ∧ laidMetH Tryz.prog Rows.topRefusesRow.laid w) ∧ sizedMet enc Tryz.prog Tryz.f4 (OpenSpec.ofChange Rows.topRefusesSpec) false w args)
      (Rows.topRefusesSpec.post enc Tryz.prog Tryz.f4 false true false false) := by
  refine returnsInHanded_of_calls own started (by kernel_rfl)
    (ChangeSpec.witness_shaped (enc := enc) (C := Tryz.checked) (os := os) (X := fun w _ => laidMetH Tryz.prog Rows.topRefusesRow.laid w) false (World.laidAll Tryz.prog os Rows.topRefusesRow.laid) #[.int .i64 0, .bool false] 8 (World.laidAll_os _ _ _)
      (World.shaped_of_ZipB (by kernel_rfl) (by kernel_rfl)) (by kernel_rfl) (by kernel_rfl) (by kernel_rfl)
      (by rw [MakeChecks.laidMetH_plain _ _ _ (by kernel_rfl)]; exact laidMet_laidAll _ (by kernel_rfl) (by kernel_rfl))) ?_
  intro w tape i _ hsh _ hok hpre hholds
  obtain ⟨_, _, _, fn', hfn', _, _, _, _, hval1⟩ := hok
  have e : fn' = Tryz.f4 := Option.some.inj (hfn'.symm.trans Tryz.func4)
  subst e
  obtain ⟨⟨⟨ds, gs, before, hw, hc⟩, hx⟩, hz⟩ := hpre
  have hW := DataW.Whole.of_heap (w' := w.forCall tape i) (by rfl) hw
  have hL : laidMetH Tryz.prog Rows.topRefusesRow.laid (w.forCall tape i) := hx.of_heap (by rfl)
  have goal : Calls Tryz.prog 4 i.args (w.forCall tape i) fun e W' => ∃ v, e = .returned v ∧ Rows.topRefusesSpec.post enc Tryz.prog Tryz.f4 false true false false (w.forCall tape i) i.args v W' := by
    generalize hWW : w.forCall tape i = W at hW hL hsh hval1
    generalize i.args = args at hW hval1
    have hval : ∀ (j : Nat) t v, Tryz.f4.params[j]? = some t → args[j]? = some v → Value.okWide Tryz.prog W .any w.heap.size t v := hval1
    have hW' := hW
    obtain ⟨p, q, hA0, hV, rfl, hfz, hnd⟩ := hW
    have hA : DataW.TrodAll enc Tryz.prog W 0 (fun _ => true) true Tryz.f4.params.toList args.toList ds p := hA0
    rw [Tryz.params4] at hA hval
    obtain ⟨v0, vs0, d0, ds0, p0, q0, hargs, rfl, rfl, h0, r0⟩ := trodAll_cons hA
    obtain ⟨v1, vs1, d1, ds1, p1, q1, rfl, rfl, rfl, h1, r1⟩ := trodAll_cons r0
    obtain ⟨rfl, rfl, rfl⟩ := trodAll_nil r1
    obtain rfl : args = #[v0, v1] := by cases args; simp_all
    obtain ⟨rfl, rfl⟩ := trodVars_none hV
    obtain ⟨a0, rfl, rfl, rfl, w0⟩ := open_int Tryz.underlying3 (hval 0 3 v0 rfl rfl) h0
    obtain ⟨a1, rfl, rfl, rfl⟩ := open_bool Tryz.underlying4 (hval 1 4 v1 rfl rfl) h1
    clear hA0
    simp only [List.append_nil] at hW'
    refine (walk a0 a1 W (glob_ok hL hsh)).mono fun e W' ⟨he, hg⟩ => ?_
    subst he
    exact ⟨_, rfl, _, _, _, [], _, [], hW', trodAll_mk1 (shut_bool Tryz.underlying4 _), (trodAll_cons_mk (shut_int Tryz.underlying3 w0) (trodAll_cons_mk (shut_bool Tryz.underlying4 _) trodAll_mk0)), rfl, hg.frame _, fun h => by cases h⟩
  refine goal.mono fun e W' ⟨v, he, hp⟩ => ?_
  subst he
  exact ChangeSpec.post_blind hp

theorem over : Rows.topRefusesRow.holds Tryz.pinned (OpenSpec.ofChange Rows.topRefusesSpec) :=
  OpenClaim.holds_of_wide 4 Tryz.f4 rfl rfl rfl rfl rfl rfl rfl ⟨rfl, rfl, rfl, rfl, rfl⟩ rfl rfl rfl rfl rfl named4 Tryz.func4 closed fitsInst fitsWrap
    (fun os started H enc _ => lifted os started H enc)
end Go.Proofs.YtnllmelmmcapcaaGreatDoor.topRefuses
