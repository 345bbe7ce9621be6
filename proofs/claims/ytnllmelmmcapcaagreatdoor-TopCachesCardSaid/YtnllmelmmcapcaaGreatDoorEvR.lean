/- What an abstract memory says of a world. -/
import Derived.Test.YtnllmelmmcapcaaGreatDoorEvP
import Derived.Test.YtnllmelmmcapcaaGreatDoorMem
namespace Go.Proofs.YtnllmelmmcapcaaGreatDoor.Ev
open Go
set_option linter.unusedVariables false

structure Env where
  blk : Nat → Nat
  sh : Nat → Nat
  cap : Nat → Nat
  /-- Bytes of which nothing is known. -/
  bd : Nat → UInt8
  /-- A number of two digits, one of three. -/
  a2 : Fin 80
  a3 : Fin 20
  any : Nat → Value
  /-- Blocks outside, kept as they are. -/
  fr : Nat → Option Obj

def Env.age (ρ : Env) (b : Bool) : Nat := cond b (100 + ρ.a3.val) (20 + ρ.a2.val)
/-- Two digits, three digits, and the bytes of which nothing is known. -/
def Env.byte (ρ : Env) : Nat → UInt8
  | 0 => UInt8.ofNat (48 + ρ.age false / 10)
  | 1 => UInt8.ofNat (48 + ρ.age false % 10)
  | 2 => UInt8.ofNat (48 + ρ.age true / 100)
  | 3 => UInt8.ofNat (48 + ρ.age true / 10 % 10)
  | 4 => UInt8.ofNat (48 + ρ.age true % 10)
  | j + 5 => ρ.bd j

theorem Env.age_bounds (ρ : Env) (b : Bool) : ageLo b ≤ (ρ.age b : Int) ∧ (ρ.age b : Int) ≤ ageHi b := by
  have h2 := ρ.a2.isLt
  have h3 := ρ.a3.isLt
  cases b
  · simp only [Env.age, ageLo, ageHi, cond_false]; omega
  · simp only [Env.age, ageLo, ageHi, cond_true]; omega

theorem Env.dig (ρ : Env) {j : Nat} (h : j < 5) : 48 ≤ (ρ.byte j).toNat ∧ (ρ.byte j).toNat ≤ 57 := by
  have h2 := ρ.a2.isLt
  have h3 := ρ.a3.isLt
  have key : ∀ n, n < 10 → (UInt8.ofNat (48 + n)).toNat = 48 + n := fun n hn => by
    rw [UInt8.toNat_ofNat']; omega
  match j, h with
  | 0, _ => simp only [Env.byte, Env.age, cond_false]; rw [key _ (by omega)]; omega
  | 1, _ => simp only [Env.byte, Env.age, cond_false]; rw [key _ (by omega)]; omega
  | 2, _ => simp only [Env.byte, Env.age, cond_true]; rw [key _ (by omega)]; omega
  | 3, _ => simp only [Env.byte, Env.age, cond_true]; rw [key _ (by omega)]; omega
  | 4, _ => simp only [Env.byte, Env.age, cond_true]; rw [key _ (by omega)]; omega

def byteC (ρ : Env) (c : Nat) : UInt8 := if c < 256 then UInt8.ofNat c else ρ.byte (c - 256)
def Env.addr (ρ : Env) (b o : Nat) : Addr := ⟨ρ.blk b, ρ.sh b + o, none⟩

mutual
def conc (ρ : Env) : AV → Value
  | .bool b => .bool b
  | .int k n => .int k n
  | .symb j => .int .u8 ((ρ.byte j).toNat : Int)
  | .str l => .string ⟨(l.map (byteC ρ)).toArray⟩
  | .ptr b o => .pointer (some (ρ.addr b o))
  | .glob g o => .pointer (some ⟨g, o, none⟩)
  | .nilp => .pointer none
  | .sl b o len cap => .slice (some (ρ.addr b o)) len cap
  | .slo b i es len => .slice (some (ρ.addr b (i * es))) len (ρ.cap b - i)
  | .slz b i es l => if ρ.cap b - i = l then .slice (some (ρ.addr b (i * es))) 0 0 else .slice (some (ρ.addr b ((i + l) * es))) 0 (ρ.cap b - i - l)
  | .nilsl => .slice none 0 0
  | .fn f x c => .func f (concs ρ x).toArray (concs ρ c).toArray
  | .nilfn => .nilFunc
  | .iface t v => .iface t (conc ρ v)
  | .nilif => .nilIface
  | .agg l => .agg (concs ρ l).toArray
  | .tup l => .tuple (concs ρ l).toArray
  | .any j => ρ.any j
  | .age b => .int .i64 (ρ.age b : Int)
def concs (ρ : Env) : List AV → List Value
  | [] => []
  | v :: l => conc ρ v :: concs ρ l
end

theorem concs_eq (ρ : Env) (l : List AV) : concs ρ l = l.map (conc ρ) := by
  induction l with
  | nil => simp [concs]
  | cons v l ih => simp [concs, ih]

/- AV.lt n: all its blocks are among the first n. -/
mutual
def AV.lt (n : Nat) : AV → Prop
  | .ptr b _ => b < n
  | .sl b _ _ _ => b < n
  | .slo b _ _ _ => b < n
  | .slz b _ _ _ => b < n
  | .fn _ x c => ltAll n x ∧ ltAll n c
  | .iface _ v => v.lt n
  | .agg l => ltAll n l
  | .tup l => ltAll n l
  | _ => True
def ltAll (n : Nat) : List AV → Prop
  | [] => True
  | v :: l => v.lt n ∧ ltAll n l
end

theorem ltAll_iff (n : Nat) (l : List AV) : ltAll n l ↔ ∀ v ∈ l, v.lt n := by
  induction l with
  | nil => simp [ltAll]
  | cons v l ih => simp [ltAll, ih]

/-- ρ' knows the first n blocks as ρ does. -/
structure Ext (n : Nat) (ρ ρ' : Env) : Prop where
  blk : ∀ b, b < n → ρ'.blk b = ρ.blk b
  sh : ∀ b, b < n → ρ'.sh b = ρ.sh b
  cap : ∀ b, b < n → ρ'.cap b = ρ.cap b
  byte : ρ'.byte = ρ.byte
  age : ρ'.age = ρ.age
  any : ρ'.any = ρ.any
  fr : ρ'.fr = ρ.fr

theorem Ext.refl (n : Nat) (ρ : Env) : Ext n ρ ρ := ⟨fun _ _ => rfl, fun _ _ => rfl, fun _ _ => rfl, rfl, rfl, rfl, rfl⟩
theorem Ext.trans {n m : Nat} {ρ ρ' ρ'' : Env} (h : Ext n ρ ρ') (hn : n ≤ m) (h' : Ext m ρ' ρ'') : Ext n ρ ρ'' :=
  ⟨fun b hb => (h'.blk b (by omega)).trans (h.blk b hb), fun b hb => (h'.sh b (by omega)).trans (h.sh b hb), fun b hb => (h'.cap b (by omega)).trans (h.cap b hb), h'.byte.trans h.byte, h'.age.trans h.age, h'.any.trans h.any, h'.fr.trans h.fr⟩
theorem Ext.addr {n : Nat} {ρ ρ' : Env} (h : Ext n ρ ρ') {b : Nat} (hb : b < n) (o : Nat) : ρ'.addr b o = ρ.addr b o := by
  unfold Env.addr; rw [h.blk b hb, h.sh b hb]

theorem conc_ext {n : Nat} {ρ ρ' : Env} (h : Ext n ρ ρ') : ∀ v : AV, v.lt n → conc ρ' v = conc ρ v := by
  have hb : byteC ρ' = byteC ρ := by funext c; simp only [byteC, h.byte]
  intro v
  refine AV.rec (motive_1 := fun v => v.lt n → conc ρ' v = conc ρ v) (motive_2 := fun l => ltAll n l → concs ρ' l = concs ρ l)
    (fun b _ => ?_) (fun k m _ => ?_) (fun j _ => ?_) (fun l _ => ?_) (fun b o hl => ?_) (fun g o _ => ?_) (fun _ => ?_) (fun b o len cap hl => ?_) (fun b i es len hl => ?_) (fun b i es l hl => ?_) (fun _ => ?_)
    (fun f x c hx hc hl => ?_) (fun _ => ?_) (fun t v hv hl => ?_) (fun _ => ?_) (fun l hv hl => ?_) (fun l hv hl => ?_) (fun j _ => ?_) (fun b _ => ?_) (fun _ => ?_) (fun v l hv hl' hl => ?_) v
  · simp [conc]
  · simp [conc]
  · simp [conc, h.byte]
  · simp [conc, hb]
  · simp only [AV.lt] at hl; simp [conc, h.addr hl]
  · simp [conc]
  · simp [conc]
  · simp only [AV.lt] at hl; simp [conc, h.addr hl]
  · simp only [AV.lt] at hl; simp [conc, h.addr hl, h.cap b hl]
  · simp only [AV.lt] at hl; simp [conc, h.addr hl, h.cap b hl]
  · simp [conc]
  · simp only [AV.lt] at hl; simp [conc, hx hl.1, hc hl.2]
  · simp [conc]
  · simp only [AV.lt] at hl; simp [conc, hv hl]
  · simp [conc]
  · simp only [AV.lt] at hl; simp [conc, hv hl]
  · simp only [AV.lt] at hl; simp [conc, hv hl]
  · simp [conc, h.any]
  · simp [conc, h.age]
  · simp [concs]
  · simp only [ltAll] at hl; simp [concs, hv hl.1, hl' hl.2]

theorem AV.lt_mono {n m : Nat} (h : n ≤ m) : ∀ v : AV, v.lt n → v.lt m := by
  intro v
  refine AV.rec (motive_1 := fun v => v.lt n → v.lt m) (motive_2 := fun l => ltAll n l → ltAll m l)
    (fun b _ => ?_) (fun k m _ => ?_) (fun j _ => ?_) (fun l _ => ?_) (fun b o hl => ?_) (fun g o _ => ?_) (fun _ => ?_) (fun b o len cap hl => ?_) (fun b i es len hl => ?_) (fun b i es l hl => ?_) (fun _ => ?_)
    (fun f x c hx hc hl => ?_) (fun _ => ?_) (fun t v hv hl => ?_) (fun _ => ?_) (fun l hv hl => ?_) (fun l hv hl => ?_) (fun j _ => ?_) (fun b _ => ?_) (fun _ => ?_) (fun v l hv hl' hl => ?_) v
  all_goals simp only [AV.lt, ltAll] at *
  all_goals first
    | trivial
    | omega
    | exact ⟨hx hl.1, hc hl.2⟩
    | exact hv hl
    | exact ⟨hv hl.1, hl' hl.2⟩

/-! ### Blocks, memory -/

/-- No cell of the first n is frozen. -/
def Fz (lo hi n : Nat) : Prop := lo = hi ∨ (n ≤ lo ∧ lo ≤ hi)
theorem Fz.free {lo hi n : Nat} (h : Fz lo hi n) (i : Nat) (hi' : i < n) : ¬ (lo ≤ i ∧ i < hi) := by
  rcases h with h | ⟨h, _⟩ <;> omega

structure BlkOk (ρ : Env) (b : Nat) (B : Blk) (w : World) : Prop where
  row : ∃ cs lo hi, w.heap[ρ.blk b]? = some (.cells cs B.T (lo, hi)) ∧ Fz lo hi cs.size ∧ (∀ (i : Nat) v, B.cells[i]? = some v → cs[ρ.sh b + i]? = some (conc ρ v)) ∧
    (B.opn = true → 0 < B.es ∧ ρ.sh b + ρ.cap b * B.es = cs.size) ∧ (B.opn = false → ρ.sh b = 0 ∧ cs.size = B.cells.length)

structure Rep (ρ : Env) (H : Heap) (n : Nat) (w0 w : World) : Prop where
  lt : ∀ b B, H.get b = some B → b < n
  old : ∀ b B, H.get b = some B → w0.heap.size ≤ ρ.blk b
  cells : ∀ b B, H.get b = some B → ∀ v ∈ B.cells, v.lt n
  ok : ∀ b B, H.get b = some B → BlkOk ρ b B w
  inj : ∀ b b' B B', H.get b = some B → H.get b' = some B' → ρ.blk b = ρ.blk b' → b = b'
  upd : Upd [] w0 w
  frame : ∀ g o, ρ.fr g = some o → w.heap[g]? = some o
  apart : ∀ b B, H.get b = some B → ρ.fr (ρ.blk b) = none

structure RepT (ρ : Env) (n N : Nat) (tm : Tr AV) (a : Act) : Prop where
  size : a.tmps.size = N
  defers : a.defers = []
  tmp : ∀ (t : Nat) v, tm.get t = some v → v.lt n ∧ a.tmps[t]? = some (conc ρ v)

/-- The globals that are known, in the world that the call began in. -/
structure GlobOk (G : Gl) (w0 : World) : Prop where
  cell : ∀ g l, G.t.get g = some l → ∀ (i : Nat) v, l[i]? = some v → v.lt 0 ∧ g < w0.heap.size ∧ ∀ ρ, w0.cell? ⟨g, i, none⟩ = some (conc ρ v)
  ints : ∀ g, G.t.get g = some [] → g < w0.heap.size ∧ ∃ m, w0.cell? ⟨g, 0, none⟩ = some (.int .i64 m)

theorem Rep.cell {ρ : Env} {H : Heap} {n : Nat} {w0 w : World} (h : Rep ρ H n w0 w) {b : Nat} {B : Blk} (hb : H.get b = some B) {o : Nat} {v : AV} (hv : B.cells[o]? = some v) :
    w.cell? (ρ.addr b o) = some (conc ρ v) ∧ v.lt n := by
  obtain ⟨cs, lo, hi, h1, h2, h3, h4⟩ := (h.ok b B hb).row
  refine ⟨?_, h.cells b B hb v (List.mem_of_getElem? hv)⟩
  unfold World.cell? Env.addr
  simp [h1, h3 o v hv]

theorem Rep.frozen {ρ : Env} {H : Heap} {n : Nat} {w0 w : World} (h : Rep ρ H n w0 w) {b : Nat} {B : Blk} (hb : H.get b = some B) {o : Nat} (hv : o < B.cells.length) :
    w.frozen? (ρ.addr b o) = false := by
  obtain ⟨cs, lo, hi, h1, h2, h3, h4⟩ := (h.ok b B hb).row
  have hlt : ρ.sh b + o < cs.size := by
    have := h3 o _ (List.getElem?_eq_getElem hv)
    exact (Array.getElem?_eq_some_iff.1 this).1
  have := h2.free _ hlt
  unfold World.frozen? Env.addr
  simp only [h1]
  rw [← Bool.not_eq_true]
  simp only [Bool.and_eq_true, decide_eq_true_eq]
  exact this

theorem Rep.drew {ρ : Env} {H : Heap} {n : Nat} {w0 w : World} (h : Rep ρ H n w0 w) : Rep ρ H n w0 w.drew :=
  ⟨h.lt, h.old, h.cells, fun b B hb => ⟨(h.ok b B hb).row⟩, h.inj, h.upd.drew, h.frame, h.apart⟩
end Go.Proofs.YtnllmelmmcapcaaGreatDoor.Ev
