/- TopCaches: what the evaluator asks of this program, and the calls that are known. -/
import Derived.Test.YtnllmelmmcapcaaGreatDoorCaD
import Derived.Test.YtnllmelmmcapcaaGreatDoorCaM
import Derived.Test.YtnllmelmmcapcaaGreatDoorTopL
import Derived.Laws.Externs
import Derived.KernelRfl
namespace Go.Proofs.YtnllmelmmcapcaaGreatDoor.Ev
open Go Go.RowKit
set_option linter.unusedVariables false

theorem Rep.below {ρ : Env} {H : Heap} {n : Nat} {w0 w w' : World} (h : Rep ρ H n w0 w) (hb : Below w.heap.size w w') : Rep ρ H n w0 w' := by
  have hu := Upd.of_below hb []
  have hat : ∀ g, g < w.heap.size → w'.heap[g]? = w.heap[g]? := fun g hg => hu.block g hg (by simp)
  refine ⟨h.lt, h.old, h.cells, fun b B hB => ?_, h.inj, h.upd.trans_same hu, fun g o hg => ?_, h.apart⟩
  · obtain ⟨cs, lo, hi, r1, r2⟩ := (h.ok b B hB).row
    exact ⟨cs, lo, hi, by rw [hat _ (h.lt_heap hB)]; exact r1, r2⟩
  · have h1 := h.frame g o hg
    rw [hat _ (Array.getElem?_eq_some_iff.1 h1).1]; exact h1

theorem Rep.drewN {ρ : Env} {H : Heap} {n : Nat} {w0 w : World} (h : Rep ρ H n w0 w) : ∀ q, Rep ρ H n w0 (w.drewN q)
  | 0 => h
  | q + 1 => by
    have := (h.drewN q).drew
    exact this

theorem only_of {X : String} {i : Nat} (h : (Tryz.prog.funcs.toList.zipIdx.all fun p => !(p.1.name == X) || p.2 == i) = true) {f : Nat} {fn : Func} (hf : Tryz.prog.funcs[f]? = some fn) (hn : X = fn.name) : f = i := by
  have hm : (fn, f) ∈ Tryz.prog.funcs.toList.zipIdx := by
    rw [List.mem_zipIdx_iff_getElem?]
    simpa using hf
  have := List.all_eq_true.1 h _ hm
  simpa [hn] using this

theorem no_count {f : Nat} {fn : Func} (hf : Tryz.prog.funcs[f]? = some fn) : (fn.name == "runtime.NumGoroutine") = false := by
  have h : (Tryz.prog.funcs.toList.all fun fn => !(fn.name == "runtime.NumGoroutine")) = true := by kernel_rfl
  have := List.all_eq_true.1 h fn (by
    have := Array.mem_of_getElem? hf
    simpa using this)
  simpa using this

theorem ext_ok (f : Nat) (fn : Func) (args : List AV) (v : AV) (hf : Tryz.prog.funcs[f]? = some fn) (hb : fn.body = none) (hs : ExtSays Tryz.prog fn.name args v) (ρ : Env) (w : World) :
    (callFunc f (concs ρ args).toArray).run Tryz.prog w = .ok (.value (conc ρ v)) w := by
  generalize hnm : fn.name = nm at hs
  cases hs with
  | index hc h =>
    obtain rfl := only_of (i := 292) (by kernel_rfl) hf hnm.symm
    have h8 := @run_callFunc_extern Tryz.prog 292 _ Extern.BytealgIndexByte.indexByte Tryz.func292 (by kernel_rfl) (by kernel_rfl) (by kernel_rfl) (by kernel_rfl)
    rw [h8]
    simp only [concs, conc]
    rw [Lib.run_indexByteString]
    simp only [Result.andThen_ok, h ρ]
    rfl
  | count hc h =>
    obtain rfl := only_of (i := 257) (by kernel_rfl) hf hnm.symm
    have h8 := @run_callFunc_extern Tryz.prog 257 _ Extern.BytealgCount.count Tryz.func257 (by kernel_rfl) (by kernel_rfl) (by kernel_rfl) (by kernel_rfl)
    rw [h8]
    simp only [concs, conc]
    rw [Lib.run_countString]
    simp only [Result.andThen_ok, h ρ, Lib.countByte]
    rfl
  | typeOf h1 h2 =>
    obtain rfl := only_of (i := 81) (by kernel_rfl) hf hnm.symm
    have h8 := @run_callFunc_extern Tryz.prog 81 _ Extern.ReflectliteType.typeOf Tryz.func81 (by kernel_rfl) (by kernel_rfl) (by kernel_rfl) (by kernel_rfl)
    rw [h8]
    rename_i t ct g o u nm
    have e : ∀ u, Extern.ReflectliteType.typeOf #[Value.iface t u] = Extern.ReflectliteType.toType t := fun _ => rfl
    simp only [concs, conc]
    rw [e]
    simp only [Extern.ReflectliteType.toType, cutType, Extern.Rtype.handle, Sem.run_bind, run_program, Result.andThen_ok, h1, Sem.run_pure, h2]
  | comparable h1 h2 h3 h4 =>
    obtain rfl := only_of (i := 414) (by kernel_rfl) hf hnm.symm
    have h8 := @run_callFunc_extern Tryz.prog 414 _ (Extern.ReflectliteType.method fun t => do Extern.Rtype.noPackHeld "Comparable" t; pure (.bool (← typeInfo t).comparable)) Tryz.func414 (by kernel_rfl) (by kernel_rfl) (by kernel_rfl) (by kernel_rfl)
    rw [h8]
    simp only [concs, conc]
    have e1 : ∀ (f : TypeId → Sem Value) r, Extern.ReflectliteType.method f #[r] = (do f (← Extern.ReflectliteType.ofRtype r)) := fun _ _ => rfl
    have e2 : ∀ h, Extern.ReflectliteType.ofRtype (.agg #[h]) = (do let t ← Extern.Rtype.ofHandle h; Extern.Rtype.noPack "a Type asked or handed on" t; pure t) := fun _ => rfl
    rw [e1, e2]
    simp only [Extern.Rtype.ofHandle, Extern.Rtype.noPack, Extern.Rtype.noPackHeld, Sem.run_bind, run_program, Result.andThen_ok, h1, h2, h3, Sem.run_pure, run_info h4, Bool.false_eq_true, if_false]

theorem mx_cell {G : Gl} (hg : G.t = GG) {w0 w : World} (hG : GlobOk G w0) {ρ : Env} {H : Heap} {n : Nat} (hR : Rep ρ H n w0 w) : ∃ m, w.cell? ⟨4, 0, none⟩ = some (.int .i64 m) := by
  obtain ⟨h1, m, h2⟩ := hG.ints 4 (by rw [hg]; simp [GG, Tr.get])
  exact ⟨m, by rw [hR.upd.cell (a := ⟨4, 0, none⟩) h1 (by simp)]; exact h2⟩

theorem lib_ok {G : Gl} (hg : G.t = GG) (f : Nat) (fn : Func) (args : List AV) (H : Heap) (n : Nat) (v : AV) (hf : Tryz.prog.funcs[f]? = some fn) (hs : LibSays Tryz.prog G H fn.name args v) (hv : ∀ m, v.lt m) : fn.body.isSome = true ∧ CallDoes Tryz.prog G f args H n v H n := by
  generalize hnm : fn.name = nm at hs
  cases hs with
  | index hm hl h =>
    obtain rfl := only_of (i := 199) (by kernel_rfl) hf hnm.symm
    refine ⟨by have := Tryz.func199; rw [hf] at this; cases this; rfl, fun ρ w0 w hG hR hlt => ?_⟩
    obtain ⟨m, hm⟩ := mx_cell hg hG hR
    simp only [concs, conc]
    refine (Tryz.stringslite_Index _ _ m w (by simp [ByteArray.size]; omega) hm).mono fun e w' he => ?_
    obtain ⟨rfl, rfl⟩ := he
    exact ⟨ρ, by simp [h ρ], Ext.refl _ _, Nat.le_refl _, hv _, hR⟩
  | join hx hc h1 h2 h =>
    rename_i x cells xs sep l
    obtain rfl := only_of (i := 373) (by kernel_rfl) hf hnm.symm
    refine ⟨by have := Tryz.func373; rw [hf] at this; cases this; rfl, fun ρ w0 w hG hR hlt => ?_⟩
    obtain ⟨bk, o, c, q1, q2, q3, q4⟩ := hx ρ n w0 w hR
    subst hc
    have hmap : (xs.map fun l => (⟨(l.map (byteC ρ)).toArray⟩ : ByteArray)).map (·.data.toList) = xs.map (·.map (byteC ρ)) := by simp [List.map_map, Function.comp_def]
    simp only [concs, conc, q1]
    have hj := h ρ
    have hlen : (Lib.join ((xs.map fun l => (⟨(l.map (byteC ρ)).toArray⟩ : ByteArray)).map (·.data.toList)) (⟨(sep.map (byteC ρ)).toArray⟩ : ByteArray).data.toList).length ≤ 140737488355328 := by
      rw [hmap]
      show (Lib.join (xs.map (·.map (byteC ρ))) (sep.map (byteC ρ))).length ≤ _
      rw [← hj, List.length_map]; omega
    have hcall := Tryz.strings_Join bk o c (xs.map fun l => (⟨(l.map (byteC ρ)).toArray⟩ : ByteArray)) ⟨(sep.map (byteC ρ)).toArray⟩ w (fun j x hx => by
      rw [List.getElem?_map] at hx
      obtain ⟨l', hl', rfl⟩ := Option.map_eq_some_iff.1 hx
      have := q4 j (.str l') (by rw [List.getElem?_map, hl']; rfl)
      simpa only [conc] using this) q3 (by simp; omega) (by simpa using q2) hlen
    rw [hmap] at hcall
    simp only [List.length_map] at hcall ⊢
    refine hcall.mono fun e w' he => ?_
    obtain ⟨rfl, hb⟩ := he
    refine ⟨ρ, ?_, Ext.refl _ _, Nat.le_refl _, hv _, hR.below hb⟩
    simp only [hj]
  | bindex hm hx hy hlx hly hl hl2 h =>
    rename_i x y cx cy lx ly i
    obtain rfl := only_of (i := 377) (by kernel_rfl) hf hnm.symm
    refine ⟨by have := Tryz.func377; rw [hf] at this; cases this; rfl, fun ρ w0 w hG hR hlt => ?_⟩
    obtain ⟨m, hm⟩ := mx_cell hg hG hR
    obtain ⟨bk, o, c, q1, q2, q3, q4⟩ := hx ρ n w0 w hR
    obtain ⟨bk', o', c', p1, p2, p3, p4⟩ := hy ρ n w0 w hR
    have lenx : cx.length = lx.length := by have := congrArg List.length (hlx ρ); simpa [concs_length] using this
    have leny : cy.length = ly.length := by have := congrArg List.length (hly ρ); simpa [concs_length] using this
    have cell : ∀ {bk o : Nat} {cx : List AV} {lx : List Nat}, (∀ ρ, concs ρ cx = lx.map fun c => Value.int .u8 ((byteC ρ c).toNat : Int)) → (∀ (j : Nat) v, cx[j]? = some v → w.cell? ⟨bk, o + j, none⟩ = some (conc ρ v)) →
        ∀ i, i < lx.length → w.cell? ((⟨bk, o, none⟩ : Addr).add i) = some (.int .u8 ((lx.map fun c => ((byteC ρ c).toNat : Int)).getD i 0)) := fun {bk o cx lx} hlx q4 i hi => by
      have hadd : (⟨bk, o, none⟩ : Addr).add i = ⟨bk, o + i, none⟩ := by unfold Addr.add; split <;> simp_all
      have hl : cx.length = lx.length := by have := congrArg List.length (hlx ρ); simpa [concs_length] using this
      have h1 : cx[i]? = some (cx[i]'(by omega)) := List.getElem?_eq_getElem (by omega)
      rw [hadd, q4 i _ h1]
      have h2 : (concs ρ cx)[i]? = some (conc ρ (cx[i]'(by omega))) := by rw [concs_get, h1]; rfl
      rw [hlx ρ, List.getElem?_map, List.getElem?_eq_getElem hi] at h2
      simp only [Option.map_some, Option.some.injEq] at h2
      rw [← h2]
      simp [List.getD_eq_getElem?_getD, hi]
    have bts : ∀ l : List Nat, Lib.bytesOf (l.map fun c => ((byteC ρ c).toNat : Int)) = l.map (byteC ρ) := fun l => by
      simp [Lib.bytesOf, List.map_map, Function.comp_def]
    simp only [concs, conc, q1, p1]
    have hcall := Tryz.bytes_Index_at ⟨bk, o, none⟩ ⟨bk', o', none⟩ cx.length c cy.length c' (lx.map fun c => ((byteC ρ c).toNat : Int)) (ly.map fun c => ((byteC ρ c).toNat : Int)) m w (by simp [lenx]) (by simp [leny])
      (fun x hx => by obtain ⟨c, _, rfl⟩ := List.mem_map.1 hx; have := (byteC ρ c).toNat_lt; omega) (fun x hx => by obtain ⟨c, _, rfl⟩ := List.mem_map.1 hx; have := (byteC ρ c).toNat_lt; omega)
      (fun i hi => cell hlx q4 i (by omega)) (fun i hi => cell hly p4 i (by omega)) q2 (by omega) (by omega) hm
    rw [bts, bts, h ρ] at hcall
    refine hcall.mono fun e w' he => ?_
    obtain ⟨rfl, q, rfl⟩ := he
    exact ⟨ρ, by simp only, Ext.refl _ _, Nat.le_refl _, hv _, hR.drewN q⟩


/-- The program, no call known. -/
noncomputable def G0 : Gl := ⟨GG, fun _ _ _ _ => none⟩
theorem noCount0 : NoCount Tryz.prog G0 := ⟨fun f fn hf => no_count hf, fun f fn args v hf hb hs ρ w => ext_ok f fn args v hf hb hs ρ w, (fun f args H n v H' n' h => by cases h), fun f fn args H n v hf hs hv => lib_ok rfl f fn args H n v hf hs hv⟩

theorem GlobOk.later {G G' : Gl} {w0 w : World} (h : GlobOk G w0) (hg : G'.t = G.t) (hu : Upd [] w0 w) : GlobOk G' w := by
  refine ⟨fun g l hl i v hv => ?_, fun g hl => ?_⟩
  · obtain ⟨h1, h2, h3⟩ := h.cell g l (by rw [← hg]; exact hl) i v hv
    exact ⟨h1, Nat.lt_of_lt_of_le h2 hu.size, fun ρ => by rw [hu.cell (a := ⟨g, i, none⟩) h2 (by simp)]; exact h3 ρ⟩
  · obtain ⟨h1, m, h2⟩ := h.ints g (by rw [← hg]; exact hl)
    exact ⟨Nat.lt_of_lt_of_le h1 hu.size, m, by rw [hu.cell (a := ⟨g, 0, none⟩) h1 (by simp)]; exact h2⟩

/-- A call evaluated from nothing. -/
noncomputable def call0 (f : FuncId) (args : List AV) (v : AV) : Option Unit := evCall Tryz.prog G0 (ev Tryz.prog G0 (fun ih => evDraw2 Tryz.prog G0 ih) 5000) f args .lf 0 fun u H n => chkV u v (some ())

theorem call0_ok {f : FuncId} {fn : Func} {args : List AV} {v : AV} (h : call0 f args v = some ()) (hfn : Tryz.prog.funcs[f]? = some fn) (hb : fn.body.isSome = true) (hv : v.lt 0) (hl : ltAll 0 args) (ρ : Env) (hf : ∀ g, ρ.fr g = none) (w : World) (hG : GlobOk G0 w) :
    Calls Tryz.prog f (concs ρ args).toArray w fun e w' => e = .returned (conc ρ v) ∧ Upd [] w w' := by
  obtain ⟨u, H', n', h, fn', hfn', hd⟩ := evCall_ok noCount0 (ev_ok noCount0 (fun ih hih => evDraw2_ok (by kernel_rfl) noCount0 hih) 5000) h
  obtain ⟨rfl, _⟩ := chkV_ok h
  rw [hfn] at hfn'
  cases hfn'
  rcases hd with ⟨_, hd⟩ | ⟨hno, _⟩
  · have hR : Rep ρ .lf 0 w w := ⟨fun b B hb => (by simp [Tr.get] at hb), fun b B hb => (by simp [Tr.get] at hb), fun b B hb => (by simp [Tr.get] at hb), fun b B hb => (by simp [Tr.get] at hb), fun b b' B B' hb => (by simp [Tr.get] at hb), Upd.refl _ _,
      fun g o hg => (by rw [hf] at hg; cases hg), fun b B hb => (by simp [Tr.get] at hb)⟩
    refine (hd ρ w w hG hR hl).mono fun e w' he => ?_
    obtain ⟨ρ', rfl, e1, _, _, e5⟩ := he
    exact ⟨by rw [conc_ext e1 u hv], e5.upd⟩
  · rw [hno] at hb; cases hb

theorem Rep.low {ρ : Env} {H : Heap} {n : Nat} {w0 w w' : World} (h : Rep ρ H n w0 w) (hu : Upd [] w w') : Rep ρ H n w0 w' := h.below (hu.below (by simp))

/-- A call whose arguments and whose result tell of no block, and that is known by evaluation. -/
theorem callDoes0 {G : Gl} (hg : G.t = GG) {f : FuncId} {fn : Func} {args : List AV} {v : AV} (hfn : Tryz.prog.funcs[f]? = some fn) (hb : fn.body.isSome = true) (hv : v.lt 0)
    (h : ∀ ρ : Env, (∀ g, ρ.fr g = none) → ∃ args' v', call0 f args' v' = some () ∧ v'.lt 0 ∧ ltAll 0 args' ∧ concs ρ args' = concs ρ args ∧ conc ρ v' = conc ρ v) {H : Heap} {n : Nat} : CallDoes Tryz.prog G f args H n v H n := by
  intro ρ w0 w hG hR hlt
  have hG0 : GlobOk G0 w := hG.later (G' := G0) (by rw [hg]; rfl) hR.upd
  obtain ⟨args', v', h1, h2, h3, h4, h5⟩ := h { ρ with fr := fun _ => none } (fun _ => rfl)
  have hc := call0_ok h1 hfn hb h2 h3 { ρ with fr := fun _ => none } (fun _ => rfl) w hG0
  rw [h4, h5, concs_fr, conc_fr] at hc
  refine hc.mono fun e w' he => ?_
  obtain ⟨rfl, hu⟩ := he
  exact ⟨ρ, rfl, Ext.refl _ _, Nat.le_refl _, AV.lt_mono (Nat.zero_le _) v hv, hR.low hu⟩

/-! ### Numbers of two and of three digits -/

def digN (a : Nat) : List Nat := cond (Nat.blt a 100) [48 + a / 10, 48 + a % 10] [48 + a / 100, 48 + a / 10 % 10, 48 + a % 10]
theorem bts {x : Option Unit} (h : x.isSome = true) : x = some () := by cases x <;> simp_all
theorem itoa_all : ((List.range 100).all fun i => (call0 9 [.int .i64 (.ofNat (20 + i))] (.str (digN (20 + i)))).isSome) = true := by kernel_rfl
theorem numb_all : ((List.range 100).all fun i => (call0 337 [.str (digN (20 + i))] (.tup [.int .i64 (.ofNat (20 + i)), .bool true])).isSome) = true := by kernel_rfl
theorem of_all {p : Nat → Bool} (h : ((List.range 100).all fun i => p (20 + i)) = true) {a : Nat} (h0 : 20 ≤ a) (h1 : a ≤ 119) : p a = true := by
  have := List.all_eq_true.1 h (a - 20) (by simp; omega)
  rwa [show 20 + (a - 20) = a by omega] at this

theorem age_range (ρ : Env) (g : Bool) : 20 ≤ ρ.age g ∧ ρ.age g ≤ 119 := by
  have := ρ.age_bounds g
  cases g <;> simp only [ageLo, ageHi, cond_true, cond_false] at this <;> omega

theorem digs_conc (ρ : Env) (g : Bool) : conc ρ (.str (digN (ρ.age g))) = conc ρ (.str (digs g)) := by
  have hb : ∀ n, n < 256 → byteC ρ n = UInt8.ofNat n := fun n h => by unfold byteC; rw [if_pos h]
  have h2 := ρ.a2.isLt
  have h3 := ρ.a3.isLt
  cases g with
  | false =>
    have ha : ρ.age false = 20 + ρ.a2.val := rfl
    have hlt : Nat.blt (ρ.age false) 100 = true := Nat.ble_eq_true_of_le (by omega)
    simp only [digN, hlt, cond_true, digs, cond_false, conc, List.map_cons, List.map_nil]
    rw [hb _ (by omega), hb _ (by omega)]
    rfl
  | true =>
    have ha : ρ.age true = 100 + ρ.a3.val := rfl
    have hlt : Nat.blt (ρ.age true) 100 = false := by
      cases hc : Nat.blt (ρ.age true) 100 with
      | false => rfl
      | true => have := blt_lt hc; omega
    simp only [digN, hlt, cond_true, digs, cond_false, conc, List.map_cons, List.map_nil]
    rw [hb _ (by omega), hb _ (by omega), hb _ (by omega)]
    rfl

theorem itoa_does {G : Gl} (hg : G.t = GG) (g : Bool) {H : Heap} {n : Nat} : CallDoes Tryz.prog G 9 [.age g] H n (.str (digs g)) H n :=
  callDoes0 hg Tryz.func9 (by rfl) (by simp [AV.lt]) fun ρ _ => ⟨[.int .i64 (.ofNat (ρ.age g))], .str (digN (ρ.age g)), bts (of_all (p := fun a => (call0 9 [.int .i64 (.ofNat a)] (.str (digN a))).isSome) itoa_all (age_range ρ g).1 (age_range ρ g).2),
    by simp [AV.lt], by simp [ltAll, AV.lt], by simp [concs, conc], digs_conc ρ g⟩

theorem numb_does {G : Gl} (hg : G.t = GG) (g : Bool) {H : Heap} {n : Nat} : CallDoes Tryz.prog G 337 [.str (digs g)] H n (.tup [.age g, .bool true]) H n :=
  callDoes0 hg Tryz.func337 (by rfl) (by simp [AV.lt, ltAll]) fun ρ _ => ⟨[.str (digN (ρ.age g))], .tup [.int .i64 (.ofNat (ρ.age g)), .bool true], bts (of_all (p := fun a => (call0 337 [.str (digN a)] (.tup [.int .i64 (.ofNat a), .bool true])).isSome) numb_all (age_range ρ g).1 (age_range ρ g).2),
    by simp [AV.lt, ltAll], by simp [ltAll, AV.lt], by simp only [concs]; rw [digs_conc], by simp [conc, concs]⟩

/-! ### A digit is not in a set that has none -/

theorem set_does {G : Gl} {b o j : Nat} {H : Heap} {n : Nat} {l : List AV} (hj : j < 5) {B : Blk} (hB : H.get b = some B) (hl : ∀ (i : Nat) v, l[i]? = some v → B.cells[o + 48 + i]? = some v)
    (hf : l = [.bool false, .bool false, .bool false, .bool false, .bool false, .bool false, .bool false, .bool false, .bool false, .bool false]) : CallDoes Tryz.prog G 143 [.ptr b o, .symb j] H n (.bool false) H n := by
  intro ρ w0 w hG hR hlt
  obtain ⟨d1, d2⟩ := ρ.dig hj
  generalize hd : (ρ.byte j).toNat = d at d1 d2
  have hat : l[d - 48]? = some (.bool false) := by
    subst hf
    obtain ⟨i, hi⟩ : ∃ i, d - 48 = i := ⟨_, rfl⟩
    rw [hi]
    have : i < 10 := by omega
    match i, this with
    | 0, _ => rfl
    | 1, _ => rfl
    | 2, _ => rfl
    | 3, _ => rfl
    | 4, _ => rfl
    | 5, _ => rfl
    | 6, _ => rfl
    | 7, _ => rfl
    | 8, _ => rfl
    | 9, _ => rfl
  have hc := (hR.cell hB (hl _ _ hat)).1
  simp only [concs, conc, hd]
  unfold Env.addr at hc ⊢
  refine (contains_false (ρ.blk b) (ρ.sh b + o) (d : Int) w (by omega) (by omega) (by rw [show ρ.sh b + o + ((d : Int)).toNat = ρ.sh b + (o + 48 + (d - 48)) by omega]; simpa [conc] using hc)).mono fun e w' he => ?_
  obtain ⟨rfl, rfl⟩ := he
  exact ⟨ρ, rfl, Ext.refl _ _, Nat.le_refl _, by simp [AV.lt], hR⟩

/-! ### A request without fields, as it is sent on -/

noncomputable def sentC : List Nat := sentA.map fun v => match v with | .int _ z => z.toNat | _ => 0
theorem conv_eq {R : Type} (H : Heap) (n : Nat) (k : AV → Heap → Nat → Option R) : evConvert Tryz.prog 9 48 (.str sentC) H n k = newK H n 5 1 true sentA (fun H m => k (.slo n 0 1 54) H m) := by kernel_rfl
theorem host_call : call0 351 [.agg [.int .u8 10, .int .u8 0, .int .u8 0, .int .u8 1, .str []]] (.str [49, 48, 46, 48, 46, 48, 46, 49]) = some () := by kernel_rfl
theorem del_call : call0 441 [.nilsl, .fn (.func 440) [] []] .nilsl = some () := by kernel_rfl

theorem sent_does {G : Gl} (hg : G.t = GG) {H H' : Heap} {n n' : Nat} {v : AV} (h : newK H n 5 1 true sentA (fun H m => some (.slo n 0 1 54, H, m)) = some (v, H', n')) : CallDoes Tryz.prog G 436 [.agg askA] H n v H' n' := by
  intro ρ w0 w hG hR hlt
  have hG0 : GlobOk G0 w := hG.later (G' := G0) (by rw [hg]; rfl) hR.upd
  have hP : ∀ w1, Upd [] w w1 → Calls Tryz.prog 351 #[.agg #[.int .u8 10, .int .u8 0, .int .u8 0, .int .u8 1, .string ⟨#[]⟩]] w1 fun e w' => e = .returned (.string ⟨#[49, 48, 46, 48, 46, 48, 46, 49]⟩) ∧ Upd [] w1 w' := fun w1 hu =>
    call0_ok host_call Tryz.func351 (by rfl) (by simp [AV.lt]) (by simp [ltAll, AV.lt]) env0 (fun _ => rfl) w1 (hG0.later rfl hu)
  have hD : ∀ w1, Upd [] w w1 → Calls Tryz.prog 441 #[.slice none 0 0, .func (.func 440) #[] #[]] w1 fun e w' => e = .returned (.slice none 0 0) ∧ Upd [] w1 w' := fun w1 hu =>
    call0_ok del_call Tryz.func441 (by rfl) (by simp [AV.lt]) (by simp [ltAll, AV.lt]) env0 (fun _ => rfl) w1 (hG0.later rfl hu)
  have hs := sent_req w hP hD
  have ha : (concs ρ [.agg askA]).toArray = #[.agg #[.string ⟨#[71, 69, 84]⟩, .int .u8 10, .int .u8 0, .int .u8 0, .int .u8 1, .string ⟨#[]⟩, .int .i64 80, .string ⟨#[47, 120]⟩, .slice none 0 0]] := by
    simp [concs, askA, conc, byteC]
  rw [ha]
  refine hs.mono fun e w' he => ?_
  obtain ⟨wX, u, hu, hrun, rfl⟩ := he
  have hRX := hR.low hu
  have hev : evConvert Tryz.prog 9 48 (.str sentC) H n (fun v H n => some (v, H, n)) = some (v, H', n') := by rw [conv_eq]; exact h
  obtain ⟨v1, H1, n1, h1, hdoes⟩ := evConvert_ok hev
  cases h1
  obtain ⟨ρ', w2, e1, e2, e3, e4, e5⟩ := hdoes ρ w0 wX hRX (by simp [ltAll, AV.lt])
  have hstr : conc ρ (.str sentC) = .string sentStr := by
    have hall : ∀ c ∈ sentC, c < 256 := by
      have h : (sentC.all fun c => decide (c < 256)) = true := by kernel_rfl
      intro c hc
      simpa using List.all_eq_true.1 h c hc
    have e : sentC.map (byteC ρ) = sentC.map UInt8.ofNat := List.map_congr_left fun c hc => by unfold byteC; rw [if_pos (hall c hc)]
    have e2 : (⟨(sentC.map UInt8.ofNat).toArray⟩ : ByteArray) = sentStr := by kernel_rfl
    simp only [conc, e, e2]
  replace e3 : (convert 9 48 (conc ρ (.str sentC))).run Tryz.prog wX = .ok (conc ρ' v) w2 := e3
  rw [hstr] at e3
  rw [e3] at hrun
  cases hrun
  exact ⟨ρ', rfl, e1, e2, e4, e5⟩

theorem orc_ok (f : Nat) (args : List AV) (H : Heap) (n : Nat) (v : AV) (H' : Heap) (n' : Nat) (h : GT.orc f args H n = some (v, H', n')) : (∃ fn, Tryz.prog.funcs[f]? = some fn ∧ fn.body.isSome = true) ∧ CallDoes Tryz.prog GT f args H n v H' n' := by
  change orcT f args H n = _ at h
  unfold orcT at h
  split at h
  · obtain ⟨hf, h2⟩ := cond_some h
    clear h
    obtain rfl := beq_eq' hf
    cases h2
    exact ⟨⟨_, Tryz.func9, by rfl⟩, itoa_does rfl _⟩
  · rename_i l
    obtain ⟨hf, h0⟩ := cond_some h
    clear h
    obtain rfl := beq_eq' hf
    refine ⟨⟨_, Tryz.func337, by rfl⟩, ?_⟩
    cases h2 : leq l (digs false) with
    | true =>
      rw [h2, cond_true] at h0
      cases h0
      rw [leq_eq h2]
      exact numb_does rfl false
    | false =>
      rw [h2, cond_false] at h0
      obtain ⟨h3, h4⟩ := cond_some h0
      clear h0
      cases h4
      rw [leq_eq h3]
      exact numb_does rfl true
  · obtain ⟨hf, h0⟩ := cond_some h
    clear h
    rw [Bool.and_eq_true] at hf
    obtain rfl := beq_eq' hf.1
    obtain ⟨B, l, hB, hl, hall, h1⟩ := readK_some h0
    clear h0
    obtain ⟨h2, h3⟩ := cond_some h1
    clear h1
    cases h3
    exact ⟨⟨_, Tryz.func143, by rfl⟩, set_does (blt_lt hf.2) hB hall (eqWs_eq h2)⟩
  · obtain ⟨hf, h0⟩ := cond_some h
    clear h
    obtain rfl := beq_eq' hf
    obtain ⟨h2, h3⟩ := cond_some h0
    clear h0
    rw [eqWs_eq h2]
    exact ⟨⟨_, Tryz.func436, by rfl⟩, sent_does rfl h3⟩
  · cases h

theorem noCountT : NoCount Tryz.prog GT := ⟨fun f fn hf => no_count hf, fun f fn args v hf hb hs ρ w => ext_ok f fn args v hf hb hs ρ w, orc_ok, fun f fn args H n v hf hs hv => lib_ok rfl f fn args H n v hf hs hv⟩
end Go.Proofs.YtnllmelmmcapcaaGreatDoor.Ev
