/- What the evaluator asks of this program. -/
import Derived.Test.YtnllmelmmcapcaaGreatDoorTopD
import Derived.Test.YtnllmelmmcapcaaGreatDoorTopL
import Derived.Laws.Externs
namespace Go.Proofs.YtnllmelmmcapcaaGreatDoor.Ev
open Go Go.RowKit
set_option linter.unusedVariables false

theorem Rep.below {ρ : Env} {H : Heap} {n : Nat} {w0 w w' : World} (h : Rep ρ H n w0 w) (hb : Below w.heap.size w w') : Rep ρ H n w0 w' := by
  have hu := Upd.of_below hb []
  have hat : ∀ g, g < w.heap.size → w'.heap[g]? = w.heap[g]? := fun g hg => hu.block g hg (by simp)
  refine ⟨h.lt, h.old, h.cells, fun b B hB => ?_, h.inj, h.upd.trans_same hu, fun g o hg => ?_, h.apart⟩
  · obtain ⟨cs, lo, hi, r1, r2⟩ := (h.ok b B hB).row
    exact ⟨cs, lo, hi, by rw [hat _ (h.lt_heap hB)]; exact r1, r2⟩
  · have h1 := h.frame g o hg
    rw [hat _ (Array.getElem?_eq_some_iff.1 h1).1]; exact h1

theorem Rep.drewN {ρ : Env} {H : Heap} {n : Nat} {w0 w : World} (h : Rep ρ H n w0 w) : ∀ q, Rep ρ H n w0 (w.drewN q)
  | 0 => h
  | q + 1 => by
    have := (h.drewN q).drew
    exact this

theorem only_of {X : String} {i : Nat} (h : (Tryz.prog.funcs.toList.zipIdx.all fun p => !(p.1.name == X) || p.2 == i) = true) {f : Nat} {fn : Func} (hf : Tryz.prog.funcs[f]? = some fn) (hn : X = fn.name) : f = i := by
  have hm : (fn, f) ∈ Tryz.prog.funcs.toList.zipIdx := by
    rw [List.mem_zipIdx_iff_getElem?]
    simpa using hf
  have := List.all_eq_true.1 h _ hm
  simpa [hn] using this

theorem no_count {f : Nat} {fn : Func} (hf : Tryz.prog.funcs[f]? = some fn) : (fn.name == "runtime.NumGoroutine") = false := by
  have h : (Tryz.prog.funcs.toList.all fun fn => !(fn.name == "runtime.NumGoroutine")) = true := by kernel_rfl
  have := List.all_eq_true.1 h fn (by
    have := Array.mem_of_getElem? hf
    simpa using this)
  simpa using this

theorem ext_ok (f : Nat) (fn : Func) (args : List AV) (v : AV) (hf : Tryz.prog.funcs[f]? = some fn) (hb : fn.body = none) (hs : ExtSays Tryz.prog fn.name args v) (ρ : Env) (w : World) :
    (callFunc f (concs ρ args).toArray).run Tryz.prog w = .ok (.value (conc ρ v)) w := by
  generalize hnm : fn.name = nm at hs
  cases hs with
  | index hc h =>
    obtain rfl := only_of (i := 292) (by kernel_rfl) hf hnm.symm
    have h8 := @run_callFunc_extern Tryz.prog 292 _ Extern.BytealgIndexByte.indexByte Tryz.func292 (by kernel_rfl) (by kernel_rfl) (by kernel_rfl) (by kernel_rfl)
    rw [h8]
    simp only [concs, conc]
    rw [Lib.run_indexByteString]
    simp only [Result.andThen_ok, h ρ]
    rfl
  | count hc h =>
    obtain rfl := only_of (i := 257) (by kernel_rfl) hf hnm.symm
    have h8 := @run_callFunc_extern Tryz.prog 257 _ Extern.BytealgCount.count Tryz.func257 (by kernel_rfl) (by kernel_rfl) (by kernel_rfl) (by kernel_rfl)
    rw [h8]
    simp only [concs, conc]
    rw [Lib.run_countString]
    simp only [Result.andThen_ok, h ρ, Lib.countByte]
    rfl
  | typeOf h1 h2 =>
    obtain rfl := only_of (i := 81) (by kernel_rfl) hf hnm.symm
    have h8 := @run_callFunc_extern Tryz.prog 81 _ Extern.ReflectliteType.typeOf Tryz.func81 (by kernel_rfl) (by kernel_rfl) (by kernel_rfl) (by kernel_rfl)
    rw [h8]
    rename_i t ct g o u nm
    have e : ∀ u, Extern.ReflectliteType.typeOf #[Value.iface t u] = Extern.ReflectliteType.toType t := fun _ => rfl
    simp only [concs, conc]
    rw [e]
    simp only [Extern.ReflectliteType.toType, cutType, Extern.Rtype.handle, Sem.run_bind, run_program, Result.andThen_ok, h1, Sem.run_pure, h2]
  | comparable h1 h2 h3 h4 =>
    obtain rfl := only_of (i := 414) (by kernel_rfl) hf hnm.symm
    have h8 := @run_callFunc_extern Tryz.prog 414 _ (Extern.ReflectliteType.method fun t => do Extern.Rtype.noPackHeld "Comparable" t; pure (.bool (← typeInfo t).comparable)) Tryz.func414 (by kernel_rfl) (by kernel_rfl) (by kernel_rfl) (by kernel_rfl)
    rw [h8]
    simp only [concs, conc]
    have e1 : ∀ (f : TypeId → Sem Value) r, Extern.ReflectliteType.method f #[r] = (do f (← Extern.ReflectliteType.ofRtype r)) := fun _ _ => rfl
    have e2 : ∀ h, Extern.ReflectliteType.ofRtype (.agg #[h]) = (do let t ← Extern.Rtype.ofHandle h; Extern.Rtype.noPack "a Type asked or handed on" t; pure t) := fun _ => rfl
    rw [e1, e2]
    simp only [Extern.Rtype.ofHandle, Extern.Rtype.noPack, Extern.Rtype.noPackHeld, Sem.run_bind, run_program, Result.andThen_ok, h1, h2, h3, Sem.run_pure, run_info h4, Bool.false_eq_true, if_false]

theorem mx_cell {w0 w : World} (hG : GlobOk GG w0) {ρ : Env} {H : Heap} {n : Nat} (hR : Rep ρ H n w0 w) : ∃ m, w.cell? ⟨4, 0, none⟩ = some (.int .i64 m) := by
  obtain ⟨h1, m, h2⟩ := hG.ints 4 (by simp [GG, Tr.get])
  exact ⟨m, by rw [hR.upd.cell (a := ⟨4, 0, none⟩) h1 (by simp)]; exact h2⟩

theorem lib_ok (f : Nat) (fn : Func) (args : List AV) (H : Heap) (n : Nat) (v : AV) (hf : Tryz.prog.funcs[f]? = some fn) (hs : LibSays Tryz.prog GG H fn.name args v) (hv : ∀ m, v.lt m) : fn.body.isSome = true ∧ CallDoes Tryz.prog GG f args H n v H n := by
  generalize hnm : fn.name = nm at hs
  cases hs with
  | index hm hl h =>
    obtain rfl := only_of (i := 199) (by kernel_rfl) hf hnm.symm
    refine ⟨by have := Tryz.func199; rw [hf] at this; cases this; rfl, fun ρ w0 w hG hR hlt => ?_⟩
    obtain ⟨m, hm⟩ := mx_cell hG hR
    simp only [concs, conc]
    refine (Tryz.stringslite_Index _ _ m w (by simp [ByteArray.size]; omega) hm).mono fun e w' he => ?_
    obtain ⟨rfl, rfl⟩ := he
    exact ⟨ρ, by simp [h ρ], Ext.refl _ _, Nat.le_refl _, hv _, hR⟩
  | join hx hc h1 h2 h =>
    rename_i x cells xs sep l
    obtain rfl := only_of (i := 373) (by kernel_rfl) hf hnm.symm
    refine ⟨by have := Tryz.func373; rw [hf] at this; cases this; rfl, fun ρ w0 w hG hR hlt => ?_⟩
    obtain ⟨bk, o, c, q1, q2, q3, q4⟩ := hx ρ n w0 w hR
    subst hc
    have hmap : (xs.map fun l => (⟨(l.map (byteC ρ)).toArray⟩ : ByteArray)).map (·.data.toList) = xs.map (·.map (byteC ρ)) := by simp [List.map_map, Function.comp_def]
    simp only [concs, conc, q1]
    have hj := h ρ
    have hlen : (Lib.join ((xs.map fun l => (⟨(l.map (byteC ρ)).toArray⟩ : ByteArray)).map (·.data.toList)) (⟨(sep.map (byteC ρ)).toArray⟩ : ByteArray).data.toList).length ≤ 140737488355328 := by
      rw [hmap]
      show (Lib.join (xs.map (·.map (byteC ρ))) (sep.map (byteC ρ))).length ≤ _
      rw [← hj, List.length_map]; omega
    have hcall := Tryz.strings_Join bk o c (xs.map fun l => (⟨(l.map (byteC ρ)).toArray⟩ : ByteArray)) ⟨(sep.map (byteC ρ)).toArray⟩ w (fun j x hx => by
      rw [List.getElem?_map] at hx
      obtain ⟨l', hl', rfl⟩ := Option.map_eq_some_iff.1 hx
      have := q4 j (.str l') (by rw [List.getElem?_map, hl']; rfl)
      simpa only [conc] using this) q3 (by simp; omega) (by simpa using q2) hlen
    rw [hmap] at hcall
    simp only [List.length_map] at hcall ⊢
    refine hcall.mono fun e w' he => ?_
    obtain ⟨rfl, hb⟩ := he
    refine ⟨ρ, ?_, Ext.refl _ _, Nat.le_refl _, hv _, hR.below hb⟩
    simp only [hj]
  | bindex hm hx hy hlx hly hl hl2 h =>
    rename_i x y cx cy lx ly i
    obtain rfl := only_of (i := 377) (by kernel_rfl) hf hnm.symm
    refine ⟨by have := Tryz.func377; rw [hf] at this; cases this; rfl, fun ρ w0 w hG hR hlt => ?_⟩
    obtain ⟨m, hm⟩ := mx_cell hG hR
    obtain ⟨bk, o, c, q1, q2, q3, q4⟩ := hx ρ n w0 w hR
    obtain ⟨bk', o', c', p1, p2, p3, p4⟩ := hy ρ n w0 w hR
    have lenx : cx.length = lx.length := by have := congrArg List.length (hlx ρ); simpa [concs_length] using this
    have leny : cy.length = ly.length := by have := congrArg List.length (hly ρ); simpa [concs_length] using this
    have cell : ∀ {bk o : Nat} {cx : List AV} {lx : List Nat}, (∀ ρ, concs ρ cx = lx.map fun c => Value.int .u8 ((byteC ρ c).toNat : Int)) → (∀ (j : Nat) v, cx[j]? = some v → w.cell? ⟨bk, o + j, none⟩ = some (conc ρ v)) →
        ∀ i, i < lx.length → w.cell? ((⟨bk, o, none⟩ : Addr).add i) = some (.int .u8 ((lx.map fun c => ((byteC ρ c).toNat : Int)).getD i 0)) := fun {bk o cx lx} hlx q4 i hi => by
      have hadd : (⟨bk, o, none⟩ : Addr).add i = ⟨bk, o + i, none⟩ := by unfold Addr.add; split <;> simp_all
      have hl : cx.length = lx.length := by have := congrArg List.length (hlx ρ); simpa [concs_length] using this
      have h1 : cx[i]? = some (cx[i]'(by omega)) := List.getElem?_eq_getElem (by omega)
      rw [hadd, q4 i _ h1]
      have h2 : (concs ρ cx)[i]? = some (conc ρ (cx[i]'(by omega))) := by rw [concs_get, h1]; rfl
      rw [hlx ρ, List.getElem?_map, List.getElem?_eq_getElem hi] at h2
      simp only [Option.map_some, Option.some.injEq] at h2
      rw [← h2]
      simp [List.getD_eq_getElem?_getD, hi]
    have bts : ∀ l : List Nat, Lib.bytesOf (l.map fun c => ((byteC ρ c).toNat : Int)) = l.map (byteC ρ) := fun l => by
      simp [Lib.bytesOf, List.map_map, Function.comp_def]
    simp only [concs, conc, q1, p1]
    have hcall := Tryz.bytes_Index_at ⟨bk, o, none⟩ ⟨bk', o', none⟩ cx.length c cy.length c' (lx.map fun c => ((byteC ρ c).toNat : Int)) (ly.map fun c => ((byteC ρ c).toNat : Int)) m w (by simp [lenx]) (by simp [leny])
      (fun x hx => by obtain ⟨c, _, rfl⟩ := List.mem_map.1 hx; have := (byteC ρ c).toNat_lt; omega) (fun x hx => by obtain ⟨c, _, rfl⟩ := List.mem_map.1 hx; have := (byteC ρ c).toNat_lt; omega)
      (fun i hi => cell hlx q4 i (by omega)) (fun i hi => cell hly p4 i (by omega)) q2 (by omega) (by omega) hm
    rw [bts, bts, h ρ] at hcall
    refine hcall.mono fun e w' he => ?_
    obtain ⟨rfl, q, rfl⟩ := he
    exact ⟨ρ, by simp only, Ext.refl _ _, Nat.le_refl _, hv _, hR.drewN q⟩

theorem noCount : NoCount Tryz.prog GG := ⟨fun f fn hf => no_count hf, fun f fn args v hf hb hs ρ w => ext_ok f fn args v hf hb hs ρ w, fun f fn args H n v hf hs hv => lib_ok f fn args H n v hf hs hv⟩
end Go.Proofs.YtnllmelmmcapcaaGreatDoor.Ev
