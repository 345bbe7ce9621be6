/- Regions in which a block is made beside a call: what memory is like. -/
import Derived.Test.YtnllmelmmcapcaaGreatDoorEvFc
namespace Go.Proofs.YtnllmelmmcapcaaGreatDoor.Ev
open Go Go.RowKit
set_option linter.unusedVariables false

section
variable {R : Type} {P : Program} {G : Tr (List AV)} {r : R}

theorem RepT.erase {ρ : Env} {n N d : Nat} {tm tm' : Tr AV} {a : Act} (h : RepT ρ n N tm a) (hg : ∀ m, tm'.get m = if m = d then none else tm.get m) : RepT ρ n N tm' a :=
  ⟨h.size, h.defers, fun t v hv => by
    rw [hg] at hv
    split at hv
    · cases hv
    · exact h.tmp t v hv⟩

theorem RepT.fresh {ρ : Env} {n N d : Nat} {tm : Tr AV} {a : Act} (h : RepT ρ n N tm a) (hd : tm.get d = none) (u : Value) : RepT ρ n N tm (a.put (some d) u) :=
  ⟨by simp [Act.put, h.size], by simp [Act.put, h.defers], fun t v hv => by
    have e : d ≠ t := fun e => by rw [e, hv] at hd; cases hd
    obtain ⟨h1, h2⟩ := h.tmp t v hv
    refine ⟨h1, ?_⟩
    simp only [Act.put, Array.getElem?_setIfInBounds]
    rw [if_neg e]; exact h2⟩

theorem RepT.set {ρ : Env} {n N d : Nat} {tm tm' : Tr AV} {a : Act} {v : AV} (h : RepT ρ n N tm a) (hv : v.lt n) (ht : a.tmps[d]? = some (conc ρ v)) (hg : ∀ m, tm'.get m = if m = d then some v else tm.get m) : RepT ρ n N tm' a :=
  ⟨h.size, h.defers, fun t u hu => by
    rw [hg] at hu
    by_cases e : t = d
    · rw [if_pos e] at hu; cases hu; exact ⟨hv, by rw [e]; exact ht⟩
    · rw [if_neg e] at hu; exact h.tmp t u hu⟩

/-! ### Frames -/

theorem conc_fr (ρ : Env) (f : Nat → Option Obj) : ∀ v : AV, conc { ρ with fr := f } v = conc ρ v := by
  have hb : byteC { ρ with fr := f } = byteC ρ := rfl
  have ha : ∀ b o, Env.addr { ρ with fr := f } b o = ρ.addr b o := fun _ _ => rfl
  intro v
  refine AV.rec (motive_1 := fun v => conc { ρ with fr := f } v = conc ρ v) (motive_2 := fun l => concs { ρ with fr := f } l = concs ρ l)
    (fun b => ?_) (fun k m => ?_) (fun j => ?_) (fun l => ?_) (fun b o => ?_) (fun g o => ?_) ?_ (fun b o len cap => ?_) (fun b i es len => ?_) (fun b i es l => ?_) ?_
    (fun f x c hx hc => ?_) ?_ (fun t v hv => ?_) ?_ (fun l hv => ?_) (fun l hv => ?_) (fun j => ?_) ?_ (fun v l hv hl => ?_) v
  all_goals first
    | rfl
    | simp [conc]; done
    | simp [conc, hx, hc]; done
    | simp [conc, hv]; done
    | simp [concs, hv, hl]; done

theorem concs_fr (ρ : Env) (f : Nat → Option Obj) (l : List AV) : concs { ρ with fr := f } l = concs ρ l := by
  rw [concs_eq, concs_eq]
  exact List.map_congr_left fun v _ => conc_fr ρ f v

theorem RepT.fr {ρ : Env} {n N : Nat} {tm : Tr AV} {a : Act} (f : Nat → Option Obj) (h : RepT ρ n N tm a) : RepT { ρ with fr := f } n N tm a :=
  ⟨h.size, h.defers, fun t v hv => by
    obtain ⟨h1, h2⟩ := h.tmp t v hv
    exact ⟨h1, by rw [conc_fr]; exact h2⟩⟩

variable {ρ : Env} {H : Heap} {n : Nat} {w0 w : World}

theorem BlkOk.fr {b : Nat} {B : Blk} (f : Nat → Option Obj) (h : BlkOk ρ b B w) : BlkOk { ρ with fr := f } b B w := by
  obtain ⟨cs, lo, hi, r1, r2, r3, r4⟩ := h.row
  exact ⟨cs, lo, hi, r1, r2, fun i v hv => by rw [conc_fr]; exact r3 i v hv, r4⟩

theorem Rep.fr {f : Nat → Option Obj} (h : Rep ρ H n w0 w) (h1 : ∀ g o, f g = some o → w.heap[g]? = some o) (h2 : ∀ b B, H.get b = some B → f (ρ.blk b) = none) : Rep { ρ with fr := f } H n w0 w :=
  ⟨h.lt, h.old, h.cells, fun b B hb => (h.ok b B hb).fr f, h.inj, h.upd, h1, h2⟩

/-- A block more, of which nothing is told. -/
theorem Rep.besides (h : Rep ρ H n w0 w) (x : Obj) : Rep ρ H n w0 (w.alloc x) :=
  ⟨h.lt, h.old, h.cells, fun b B hb => by
    obtain ⟨cs, lo, hi, r1, r2⟩ := (h.ok b B hb).row
    exact ⟨cs, lo, hi, by rw [Below.heap_alloc _ _ _ (h.lt_heap hb)]; exact r1, r2⟩, h.inj, h.upd.alloc _, h.fr_alloc x, h.apart⟩

/-- A block more, kept outside. -/
theorem Rep.framed (h : Rep ρ H n w0 w) (x : Obj) : Rep { ρ with fr := fun g => if g = w.heap.size then some x else ρ.fr g } H n w0 (w.alloc x) := by
  refine (h.besides x).fr (fun g o hg => ?_) (fun b B hb => ?_)
  · by_cases e : g = w.heap.size
    · rw [if_pos e] at hg; cases hg; rw [e]; exact heap_alloc_new w x
    · rw [if_neg e] at hg; exact h.fr_alloc x g o hg
  · have := h.lt_heap hb
    rw [if_neg (by omega)]; exact h.apart b B hb

/-- What was kept outside is known as a block. -/
theorem Rep.taken {f : Nat → Option Obj} {H' : Heap} {g : Nat} {T : TypeId} {cells : List AV} {cs : Array Value} (h : Rep ρ H n w0 w) (hg : w0.heap.size ≤ g) (hx : ρ.fr g = some (.cells cs T))
    (h1 : ∀ g o, f g = some o → ρ.fr g = some o) (h2 : f g = none) (hH : ∀ m, H'.get m = if m = n then some ⟨T, 1, false, cells⟩ else H.get m) (hl : ∀ v ∈ cells, v.lt n) (hc : ∀ ρ, (concs ρ cells).toArray = cs) :
    ∃ ρ', Ext n { ρ with fr := f } ρ' ∧ ρ'.blk n = g ∧ ρ'.sh n = 0 ∧ Rep ρ' H' (n + 1) w0 w := by
  have hf : Rep { ρ with fr := f } H n w0 w := h.fr (fun g o hg => h.frame g o (h1 g o hg)) (fun b B hb => by
    cases e : f (ρ.blk b) with
    | none => rfl
    | some o => have := h.apart b B hb; rw [h1 _ _ e] at this; cases this)
  have hat := h.frame g _ hx
  obtain ⟨ρ', e1, e2, e3, _, e5⟩ := hf.add (w' := w) (B := ⟨T, 1, false, cells⟩) (g := g) (s := 0) (c := 0) hH hf.upd hg hf.frame h2
    (fun b B hb => ⟨(fun e => by have := h.apart b B hb; have e : ρ.blk b = g := e; rw [e, hx] at this; cases this), rfl⟩) hl
    ⟨cs, 0, 0, hat, .inl rfl, fun i v hv => by rw [Nat.zero_add, ← hc { ρ with fr := f }, List.getElem?_toArray, concs_get, hv]; rfl, (fun e => by cases e),
      fun _ => ⟨rfl, by rw [← hc { ρ with fr := f }, List.size_toArray, concs_length]⟩⟩
  exact ⟨ρ', e1, e2, e3, e5⟩

/-! ### A block that is made -/

def valAV (v : Option (Nat × Nat)) (n : Nat) : AV := match v with | none => .ptr n 0 | some (l, c) => .sl n 0 l c
def valV (v : Option (Nat × Nat)) (g : Nat) : Value := match v with | none => .pointer (some ⟨g, 0, none⟩) | some (l, c) => .slice (some ⟨g, 0, none⟩) l c

theorem valAV_conc {v : Option (Nat × Nat)} {n : Nat} {ρ : Env} {g : Nat} (h1 : ρ.blk n = g) (h2 : ρ.sh n = 0) : conc ρ (valAV v n) = valV v g := by
  cases v with
  | none => simp [valAV, valV, conc, Env.addr, h1, h2]
  | some p => simp [valAV, valV, conc, Env.addr, h1, h2]
theorem valAV_lt (v : Option (Nat × Nat)) (n : Nat) : (valAV v n).lt (n + 1) := by
  cases v with
  | none => simp [valAV, AV.lt]
  | some p => simp [valAV, AV.lt]

noncomputable def allocK (P : Program) (o : Oper) (tm : Tr AV) (k : TypeId → List AV → Option (Nat × Nat) → Option R) : Option R :=
  match o.op with
  | .alloc t => zeroOf P t fun z => cellsK z fun l => k t l none
  | .makeSlice t l c => opd l tm fun l => opd c tm fun c => (match l, c with
    | .int _ (.ofNat l), .int _ (.ofNat c) => cond (Nat.ble l c && Nat.blt c 100000) (und P t fun d => match d with
      | .slice e => smallK P e (szOf P e fun n => zeroOf P e fun z => cellsK z fun z => cond (Nat.beq (llen z) n) (lrepl z c fun z => k e z (some (l, c))) none)
      | _ => none) none
    | _, _ => none)
  | _ => none

/-- The operation makes a block of these cells. -/
def Makes (P : Program) (o : Oper) (tm : Tr AV) (T : TypeId) (cs : Array Value) (v : Option (Nat × Nat)) : Prop :=
  ∀ ρ n N a w, RepT ρ n N tm a → (execOp a.eval o).run P w = .ok (.value (valV v w.heap.size)) (w.alloc (.cells cs T))

theorem allocK_ok {o : Oper} {tm : Tr AV} {k : TypeId → List AV → Option (Nat × Nat) → Option R} (h : allocK P o tm k = some r) :
    ∃ T cells v cs, k T cells v = some r ∧ (∀ v ∈ cells, ∀ m, v.lt m) ∧ (∀ ρ, (concs ρ cells).toArray = cs) ∧ Makes P o tm T cs v := by
  unfold allocK at h
  split at h
  · rename_i t ho
    obtain ⟨i, z, av, hi, hz, h, hc⟩ := zeroOf_ok h
    obtain ⟨l, h, hl, hlt⟩ := cellsK_ok h
    have hcs : ∀ ρ, (concs ρ l).toArray = z.cells := fun ρ => by rw [← hl ρ, hc.1]
    refine ⟨t, l, none, z.cells, h, fun v hv m => (ltAll_iff _ _).1 (hlt m (hc.2 m)) v hv, hcs, fun ρ n N a w hT => ?_⟩
    simp [execOp, ho, Instr.alloc, run_zero hi hz, newVar, newRow, newObj, Sem.run, valV]
  · rename_i t l c ho
    obtain ⟨lv, h, hlv⟩ := opd_ok h
    obtain ⟨cv, h, hcv⟩ := opd_ok h
    have hk : ∃ kl ln kc cn, lv = .int kl (.ofNat ln) ∧ cv = .int kc (.ofNat cn) := by
      cases lv with
      | int kl ln => cases ln with
        | ofNat ln => cases cv with
          | int kc cn => cases cn with
            | ofNat cn => exact ⟨kl, ln, kc, cn, rfl, rfl⟩
            | negSucc m => cases h
          | _ => cases h
        | negSucc m => cases cv <;> cases h
      | _ => cases cv <;> cases h
    obtain ⟨kl, ln, kc, cn, rfl, rfl⟩ := hk
    · have h : cond (Nat.ble ln cn && Nat.blt cn 100000) (und P t fun d => match d with
        | .slice e => smallK P e (szOf P e fun n => zeroOf P e fun z => cellsK z fun z => cond (Nat.beq (llen z) n) (lrepl z cn fun z => k e z (some (ln, cn))) none)
        | _ => none) none = some r := h
      obtain ⟨hlc, h⟩ := cond_some h
      simp only [Bool.and_eq_true] at hlc
      have hle := ble_le hlc.1
      have hlt := blt_lt hlc.2
      obtain ⟨d, hd, h⟩ := und_ok h
      split at h
      · rename_i e
        obtain ⟨i, hi, hby, h⟩ := smallK_ok h
        obtain ⟨i2, hi2, h⟩ := szOf_ok h
        obtain rfl : i2 = i := by rw [hi] at hi2; cases hi2; rfl
        obtain ⟨i', zv, av, hi', hz, h, hc⟩ := zeroOf_ok h
        obtain rfl : i' = i2 := by rw [hi] at hi'; cases hi'; rfl
        obtain ⟨z, h, hzc, hzl⟩ := cellsK_ok h
        obtain ⟨hzn, h⟩ := cond_some h
        rw [lrepl_eq] at h
        have hzn' : z.length = i'.size := by rw [llen_eq] at hzn; exact Nat.eq_of_beq_eq_true hzn
        have hcells : ∀ ρ, zv.cells = (concs ρ z).toArray := fun ρ => by rw [← hc.1 ρ]; exact hzc ρ
        have hcs : ∀ ρ ρ', (concs ρ ((List.replicate cn z).flatten)).toArray = (concs ρ' ((List.replicate cn z).flatten)).toArray := fun ρ ρ' => by
          have : concs ρ z = concs ρ' z := by
            have h1 := hcells ρ
            rw [hcells ρ'] at h1
            simpa using h1.symm
          rw [concs_rep, concs_rep, this]
        refine ⟨_, _, _, (concs env0 ((List.replicate cn z).flatten)).toArray, h, fun v hv m => (ltAll_iff _ _).1 (ltAll_rep (hzl m (hc.2 m))) v hv, fun ρ => hcs ρ env0, fun ρ n N a w hT => ?_⟩
        rw [← hcs ρ env0]
        have hinit : (Array.range (cn * i'.size)).map (fun x => (concs ρ z).toArray[x % (concs ρ z).toArray.size]!) = (concs ρ ((List.replicate cn z).flatten)).toArray := by
          rw [concs_rep, ← rep_range, concs_length, hzn']
        have w1 : IntKind.i64.wrap (Int.ofNat ln) = (ln : Int) := i64_small (by omega)
        have w2 : IntKind.i64.wrap (Int.ofNat cn) = (cn : Int) := i64_small (by omega)
        have hmul : i'.bytes * cn ≤ 1000000 * 100000 := Nat.mul_le_mul (by omega) (by omega)
        have hb : ((i'.bytes : Int) * (cn : Int)) ≤ 100000000000 := by rw [← Int.natCast_mul]; omega
        have hb' : ¬ cn * i'.bytes > roomBytes := by rw [Nat.mul_comm]; unfold roomBytes; omega
        have hg : (decide ((cn : Int) < 0) || decide ((i'.bytes : Int) * (cn : Int) > 2 ^ 48) || decide ((ln : Int) < 0) || decide ((ln : Int) > (cn : Int))) = false := by
          simp; omega
        have q1 := (hlv ρ n N a hT).1
        have q2 := (hcv ρ n N a hT).1
        simp only [execOp, ho, q1, q2]
        refine run_v ?_
        simp only [Instr.makeSlice, Sem.run_bind, run_underlying hd, Result.andThen_ok, conc, asInt, asIntOf, Sem.run_pure, run_info hi, w1, w2, hg, Bool.false_eq_true, if_false, askRoom, Int.toNat_natCast, hb', run_size hi]
        by_cases h0 : cn * i'.size = 0
        · have hinit0 : (Array.range (cn * i'.size)).map (fun x => (#[] : Array Value)[x % (#[] : Array Value).size]!) = (concs ρ ((List.replicate cn z).flatten)).toArray := by
            rw [← hinit, h0]; simp
          rw [if_pos h0]
          simp only [Sem.run_bind, Sem.run_pure, Result.andThen_ok, hinit0]
          simp [newRow, newObj, Sem.run, valV]
        · simp only [h0, if_false, Sem.run_bind, run_zero hi hz, Result.andThen_ok, Sem.run_pure, hcells ρ, hinit]
          simp [newRow, newObj, Sem.run, valV]
      · cases h
  · cases h
end
end Go.Proofs.YtnllmelmmcapcaaGreatDoor.Ev
