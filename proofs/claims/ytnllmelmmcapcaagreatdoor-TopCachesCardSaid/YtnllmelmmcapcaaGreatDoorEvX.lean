/- What the evaluator says of calls that have no text, or that are known by their contracts. -/
import Derived.Test.YtnllmelmmcapcaaGreatDoorEvOx
import Derived.Lib.Index
import Derived.Lib.Join
namespace Go.Proofs.YtnllmelmmcapcaaGreatDoor.Ev
open Go Go.RowKit
set_option linter.unusedVariables false

section
variable {R : Type} {P : Program} {G : Gl} {r : R}

theorem byte_eq {ρ : Env} {x c : Nat} (hx : x < 256) (hc : c < 256) : (byteC ρ x == byteC ρ c) = Nat.beq x c := by
  cases h : Nat.beq x c with
  | true => rw [beq_eq' h]; simp
  | false =>
    rw [← Bool.not_eq_true]
    simp only [beq_iff_eq]
    intro e
    have := congrArg UInt8.toNat e
    rw [byteC_lt hx, byteC_lt hc] at this
    exact beq_ne' h this

theorem byteC_of {ρ : Env} {c : Nat} (hc : c < 256) : byteC ρ c = UInt8.ofNat c := by unfold byteC; rw [if_pos hc]

theorem cmpC_ok {x c : Nat} {k : Bool → Option R} (hc : c < 256) (h : cmpK x c k = some r) : ∃ b, k b = some r ∧ ∀ ρ : Env, (byteC ρ x == UInt8.ofNat c) = b := by
  obtain ⟨b, h, hb⟩ := cmpK_ok h
  exact ⟨b, h, fun ρ => by rw [← byteC_of (ρ := ρ) hc]; exact hb ρ⟩

theorem idxK_ok {c : Nat} (hc : c < 256) : ∀ (l : List Nat) (i : Nat) {k : Int → Option R}, idxK c l i k = some r →
    ∃ j, k j = some r ∧ ∀ ρ, (Lib.indexByte (l.map (byteC ρ)) (UInt8.ofNat c) = -1 ∧ j = -1) ∨ (Lib.indexByte (l.map (byteC ρ)) (UInt8.ofNat c) ≠ -1 ∧ j = Lib.indexByte (l.map (byteC ρ)) (UInt8.ofNat c) + i)
  | [], i, k, h => ⟨_, h, fun ρ => .inl ⟨rfl, rfl⟩⟩
  | x :: l, i, k, h => by
    have h : (cmpK x c fun b => cond b (k (.ofNat i)) (natK (Nat.succ i) fun i => idxK c l i k)) = some r := h
    obtain ⟨b, h, hb⟩ := cmpC_ok hc h
    cases b with
    | true =>
      refine ⟨_, h, fun ρ => .inr ?_⟩
      have e : Lib.indexByte ((x :: l).map (byteC ρ)) (UInt8.ofNat c) = 0 := by
        rw [List.map_cons, Lib.indexByte, hb ρ]; rfl
      rw [e]
      exact ⟨by decide, by simp⟩
    | false =>
      rw [cond_false, natK_eq] at h
      obtain ⟨j, hk, hj⟩ := idxK_ok hc l _ h
      refine ⟨j, hk, fun ρ => ?_⟩
      have e : Lib.indexByte ((x :: l).map (byteC ρ)) (UInt8.ofNat c) = if Lib.indexByte (l.map (byteC ρ)) (UInt8.ofNat c) == -1 then -1 else Lib.indexByte (l.map (byteC ρ)) (UInt8.ofNat c) + 1 := by
        rw [List.map_cons, Lib.indexByte, hb ρ]; rfl
      rw [e]
      have hge := Lib.indexByte_ge (l.map (byteC ρ)) (UInt8.ofNat c)
      rcases hj ρ with ⟨h1, h2⟩ | ⟨h1, h2⟩
      · exact .inl ⟨by simp [h1], h2⟩
      · refine .inr ⟨by simp [h1]; omega, ?_⟩
        simp only [beq_iff_eq, h1, if_false]
        rw [h2]; push_cast; omega

theorem cntK_ok {c : Nat} (hc : c < 256) : ∀ (l : List Nat) (i : Nat) {k : Nat → Option R}, cntK c l i k = some r →
    ∃ j, k j = some r ∧ ∀ ρ, j = (l.map (byteC ρ)).count (UInt8.ofNat c) + i
  | [], i, k, h => ⟨_, h, fun ρ => by simp⟩
  | x :: l, i, k, h => by
    have h : (cmpK x c fun b => cond b (natK (Nat.succ i) fun i => cntK c l i k) (cntK c l i k)) = some r := h
    obtain ⟨b, h, hb⟩ := cmpC_ok hc h
    cases b with
    | true =>
      rw [cond_true, natK_eq] at h
      obtain ⟨j, hk, hj⟩ := cntK_ok hc l _ h
      exact ⟨j, hk, fun ρ => by rw [hj ρ, List.map_cons, List.count_cons, hb ρ]; simp; omega⟩
    | false =>
      rw [cond_false] at h
      obtain ⟨j, hk, hj⟩ := cntK_ok hc l _ h
      exact ⟨j, hk, fun ρ => by rw [hj ρ, List.map_cons, List.count_cons, hb ρ]; simp⟩

/-- What a call that has no text answers. -/
inductive ExtSays (P : Program) : String → List AV → AV → Prop where
  | index {l : List Nat} {c : Nat} {i : Int} (hc : c < 256) (h : ∀ ρ, i = Lib.indexByte (l.map (byteC ρ)) (UInt8.ofNat c)) : ExtSays P "internal/bytealg.IndexByteString" [.str l, .int .u8 (.ofNat c)] (.int .i64 i)
  | count {l : List Nat} {c : Nat} {i : Nat} (hc : c < 256) (h : ∀ ρ, i = (l.map (byteC ρ)).count (UInt8.ofNat c)) : ExtSays P "internal/bytealg.CountString" [.str l, .int .u8 (.ofNat c)] (.int .i64 (.ofNat i))
  | typeOf {t ct g o : Nat} {v : AV} {nm : String} (h1 : P.cutTypes.find? (·.1 == "internal/reflectlite.rtype") = some (nm, ct)) (h2 : typeHandle P t = .pointer (some ⟨g, o, none⟩)) :
      ExtSays P "internal/reflectlite.TypeOf" [.iface t v] (.iface ct (.agg [.glob g o]))
  | comparable {g o t : Nat} {i : TypeInfo} (h1 : handleType P (.pointer (some ⟨g, o, none⟩)) = some t) (h2 : P.packed t = false) (h3 : P.holdsPacked P.depth t = false) (h4 : P.info? t = some i) :
      ExtSays P "(internal/reflectlite.rtype).Comparable" [.agg [.glob g o]] (.bool i.comparable)

theorem evExt_ok {name : String} {args : List AV} {H : Heap} {n : Nat} {k : AV → Heap → Nat → Option R} (h : evExt P name args H n k = some r) :
    ∃ v, k v H n = some r ∧ ExtSays P name args v ∧ ∀ m, v.lt m := by
  unfold evExt at h
  split at h
  · rename_i l c
    obtain ⟨hc, h⟩ := cond_some h
    have hc1 := blt_lt hc
    cases hn : (name == "internal/bytealg.IndexByteString") with
    | true =>
      rw [hn] at h
      obtain ⟨j, hj, hall⟩ := idxK_ok hc1 l 0 h
      have := beq_iff_eq.1 hn
      subst this
      refine ⟨_, hj, .index hc1 fun ρ => ?_, fun m => by simp [AV.lt]⟩
      rcases hall ρ with ⟨h1, h2⟩ | ⟨_, h2⟩
      · rw [h1, h2]
      · simpa using h2
    | false =>
      rw [hn, cond_false] at h
      obtain ⟨hn2, h⟩ := cond_some h
      have := beq_iff_eq.1 hn2
      subst this
      obtain ⟨j, hj, hall⟩ := cntK_ok hc1 l 0 h
      exact ⟨_, hj, .count hc1 fun ρ => by simpa using hall ρ, fun m => by simp [AV.lt]⟩
  · rename_i t v
    obtain ⟨hn, h⟩ := cond_some h
    have := beq_iff_eq.1 hn
    subst this
    unfold typeOfK at h
    split at h
    · rename_i nm ct h1
      split at h
      · rename_i g o h2
        exact ⟨_, h, .typeOf h1 h2, fun m => by simp [AV.lt, ltAll]⟩
      · cases h
    · cases h
  · rename_i g o
    obtain ⟨hn, h⟩ := cond_some h
    have := beq_iff_eq.1 hn
    subst this
    unfold comparableK at h
    split at h
    · rename_i t h1
      cases h2 : P.packed t with
      | true => rw [h2] at h; cases h
      | false =>
        rw [h2, cond_false] at h
        cases h3 : P.holdsPacked P.depth t with
        | true => rw [h3] at h; cases h
        | false =>
          rw [h3, cond_false] at h
          split at h
          · rename_i i h4
            have e : ∀ (b : Bool) (k : Bool → Option R), boolK b k = k b := fun b k => by cases b <;> rfl
            rw [e] at h
            exact ⟨_, h, .comparable h1 h2 h3 h4, fun m => by simp [AV.lt]⟩
          · cases h
    · cases h
  · cases h

/-! ### The library -/

theorem prefK_ok : ∀ (t s : List Nat) {k : Bool → Option R}, prefK t s k = some r → ∃ b, k b = some r ∧ ∀ ρ, (t.map (byteC ρ)).isPrefixOf (s.map (byteC ρ)) = b
  | [], s, k, h => ⟨true, h, fun ρ => by simp⟩
  | x :: t, [], k, h => ⟨false, h, fun ρ => by simp⟩
  | x :: t, y :: s, k, h => by
    have h : (cmpK x y fun c => cond c (prefK t s k) (k false)) = some r := h
    obtain ⟨c, h, hc⟩ := cmpK_ok h
    have e : ∀ ρ, ((x :: t).map (byteC ρ)).isPrefixOf ((y :: s).map (byteC ρ)) = (c && (t.map (byteC ρ)).isPrefixOf (s.map (byteC ρ))) := fun ρ => by
      rw [List.map_cons, List.map_cons, List.isPrefixOf, hc ρ]
    cases c with
    | true =>
      obtain ⟨b, hk, hall⟩ := prefK_ok t s h
      exact ⟨b, hk, fun ρ => by rw [e, hall ρ]; rfl⟩
    | false => exact ⟨false, h, fun ρ => by rw [e]; rfl⟩

theorem findK_ok (t : List Nat) : ∀ (s : List Nat) (i : Nat) {k : Int → Option R}, findK t s i k = some r →
    ∃ j, k j = some r ∧ ∀ ρ, (Lib.index (s.map (byteC ρ)) (t.map (byteC ρ)) = -1 ∧ j = -1) ∨ (Lib.index (s.map (byteC ρ)) (t.map (byteC ρ)) ≠ -1 ∧ j = Lib.index (s.map (byteC ρ)) (t.map (byteC ρ)) + i)
  | [], i, k, h => by
    have h : (prefK t [] fun c => cond c (k (.ofNat i)) (k (.negSucc 0))) = some r := h
    obtain ⟨b, h, hb⟩ := prefK_ok t [] h
    have e : ∀ ρ, Lib.index ([].map (byteC ρ)) (t.map (byteC ρ)) = if b then 0 else -1 := fun ρ => by
      have := hb ρ
      cases t with
      | nil => simp at this; subst this; simp [Lib.index]
      | cons x t => simp at this; subst this; simp [Lib.index]
    cases b with
    | true => exact ⟨_, h, fun ρ => .inr (by rw [e]; exact ⟨by decide, by simp⟩)⟩
    | false => exact ⟨_, h, fun ρ => .inl (by rw [e]; exact ⟨rfl, rfl⟩)⟩
  | y :: s, i, k, h => by
    have h : (prefK t (y :: s) fun c => cond c (k (.ofNat i)) (natK (Nat.succ i) fun i => findK t s i k)) = some r := h
    obtain ⟨b, h, hb⟩ := prefK_ok t (y :: s) h
    cases b with
    | true =>
      refine ⟨_, h, fun ρ => .inr ?_⟩
      have e : Lib.index ((y :: s).map (byteC ρ)) (t.map (byteC ρ)) = 0 := by
        have := hb ρ
        rw [List.map_cons] at this ⊢
        rw [Lib.index, if_pos this]
      rw [e]
      exact ⟨by decide, by simp⟩
    | false =>
      rw [cond_false, natK_eq] at h
      obtain ⟨j, hk, hj⟩ := findK_ok t s _ h
      refine ⟨j, hk, fun ρ => ?_⟩
      have e : Lib.index ((y :: s).map (byteC ρ)) (t.map (byteC ρ)) = if Lib.index (s.map (byteC ρ)) (t.map (byteC ρ)) == -1 then -1 else Lib.index (s.map (byteC ρ)) (t.map (byteC ρ)) + 1 := by
        have := hb ρ
        rw [List.map_cons] at this ⊢
        rw [Lib.index, if_neg (by rw [this]; simp)]
      rw [e]
      have hge := Lib.index_ge (s.map (byteC ρ)) (t.map (byteC ρ))
      rcases hj ρ with ⟨h1, h2⟩ | ⟨h1, h2⟩
      · exact .inl ⟨by simp [h1], h2⟩
      · refine .inr ⟨by simp [h1]; omega, ?_⟩
        simp only [beq_iff_eq, h1, if_false]
        rw [h2]; push_cast; omega

theorem joinT_ok (sep : List Nat) : ∀ (xs : List (List Nat)) {k : List Nat → Option R}, joinT sep xs k = some r → k (xs.map (sep ++ ·)).flatten = some r
  | [], k, h => h
  | x :: xs, k, h => by
    have h : (joinT sep xs fun r => lapp r x fun r => lapp r sep k) = some r := h
    have := joinT_ok sep xs h
    rw [lapp_eq, lapp_eq] at this
    simpa [List.append_assoc] using this

theorem joinK_ok {sep : List Nat} {xs : List (List Nat)} {k : List Nat → Option R} (h : joinK sep xs k = some r) :
    ∃ l, k l = some r ∧ ∀ ρ, l.map (byteC ρ) = Lib.join (xs.map (·.map (byteC ρ))) (sep.map (byteC ρ)) := by
  unfold joinK at h
  cases xs with
  | nil => exact ⟨[], h, fun ρ => rfl⟩
  | cons x xs =>
    have := joinT_ok sep xs h
    rw [lapp_eq] at this
    refine ⟨_, this, fun ρ => ?_⟩
    rw [List.map_cons, Lib.join_cons, Lib.joinTail]
    simp [List.map_flatten, List.map_map, Function.comp_def]

/-- What a slice of one cell an element shows, in each world. -/
def ShowsAt (H : Heap) (x : AV) (l : List AV) : Prop := ∀ ρ m w0 w, Rep ρ H m w0 w → ∃ bk o c, conc ρ x = .slice (some ⟨bk, o, none⟩) l.length c ∧ l.length ≤ c ∧ bk < w.heap.size ∧
  ∀ (j : Nat) v, l[j]? = some v → w.cell? ⟨bk, o + j, none⟩ = some (conc ρ v)

theorem cells1_ok {x : AV} {H : Heap} {k : List AV → Option R} (h : cells1 x H k = some r) : ∃ l, k l = some r ∧ ShowsAt H x l := by
  unfold cells1 at h
  split at h
  · rename_i b o len cap
    obtain ⟨hc, h⟩ := cond_some h
    obtain ⟨B, l, hB, hl, hall, h⟩ := readK_some h
    refine ⟨l, h, fun ρ m w0 w hR => ⟨ρ.blk b, ρ.sh b + o, cap, by simp [conc, Env.addr, hl], by rw [hl]; exact ble_le hc, hR.lt_heap hB, fun j v hj => ?_⟩⟩
    have := (hR.cell hB (hall j v hj)).1
    unfold Env.addr at this
    rwa [Nat.add_assoc]
  · rename_i b i es len
    obtain ⟨he, h0⟩ := cond_some h
    clear h
    have he' := beq_eq' he
    clear he
    subst he'
    obtain ⟨B, hB, h1⟩ := blkK_some h0
    clear h0
    obtain ⟨hc, h2⟩ := cond_some h1
    clear h1
    simp only [Bool.and_eq_true] at hc
    obtain ⟨⟨ho, hes⟩, hfit0⟩ := hc
    have hfit := ble_le hfit0
    clear hfit0
    rw [llen_eq] at hfit
    obtain ⟨B', l, hB', hl, hall, h⟩ := readK_some h2
    clear h2
    obtain rfl : B' = B := by rw [hB] at hB'; cases hB'; rfl
    refine ⟨l, h, fun ρ m w0 w hR => ⟨ρ.blk b, ρ.sh b + i, ρ.cap b - i, by simp [conc, Env.addr, hl], ?_, hR.lt_heap hB, fun j v hj => ?_⟩⟩
    · obtain ⟨cs, lo, hi, r1, r2, r3, r4, r5⟩ := (hR.ok b _ hB).row
      obtain ⟨q1, q2⟩ := r4 ho
      rw [beq_eq' hes] at q2
      rw [hl]
      rcases Nat.eq_zero_or_pos len with e | e
      · omega
      · have h1 := r3 (i + len - 1) _ (List.getElem?_eq_getElem (by omega))
        have := (Array.getElem?_eq_some_iff.1 h1).1
        omega
    · have := (hR.cell hB (hall j v hj)).1
      unfold Env.addr at this
      rwa [Nat.add_assoc]
  · cases h

/-- internal/bytealg.MaxLen, known to hold some number. -/
def MxOk (P : Program) (G : Gl) : Prop := ∃ g, P.globals.findIdx? (·.name == "internal/bytealg.MaxLen") = some g ∧ G.t.get g = some []

theorem mxK_ok {k : Option R} (h : mxK P G k = some r) : MxOk P G ∧ k = some r := by
  unfold mxK at h
  split at h
  · rename_i g hg
    rw [tget_eq] at h
    split at h
    · rename_i h2
      exact ⟨⟨g, hg, h2⟩, h⟩
    · cases h
  · cases h

/-- What a call of the library answers. -/
inductive LibSays (P : Program) (G : Gl) (H : Heap) : String → List AV → AV → Prop where
  | index {l t : List Nat} {i : Int} (hm : MxOk P G) (hl : l.length < 1000000) (h : ∀ ρ, Lib.index (l.map (byteC ρ)) (t.map (byteC ρ)) = i) : LibSays P G H "internal/stringslite.Index" [.str l, .str t] (.int .i64 i)
  | join {x : AV} {cells : List AV} {xs : List (List Nat)} {sep l : List Nat} (hx : ShowsAt H x cells) (hc : cells = xs.map AV.str) (h1 : xs.length < 1000000) (h2 : l.length < 1000000)
      (h : ∀ ρ, l.map (byteC ρ) = Lib.join (xs.map (·.map (byteC ρ))) (sep.map (byteC ρ))) : LibSays P G H "strings.Join" [x, .str sep] (.str l)
  | bindex {x y : AV} {cx cy : List AV} {lx ly : List Nat} {i : Int} (hm : MxOk P G) (hx : ShowsAt H x cx) (hy : ShowsAt H y cy) (hlx : ∀ ρ, concs ρ cx = lx.map fun c => Value.int .u8 ((byteC ρ c).toNat : Int))
      (hly : ∀ ρ, concs ρ cy = ly.map fun c => Value.int .u8 ((byteC ρ c).toNat : Int)) (hl : lx.length < 1000000) (hl2 : ly.length < 1000000) (h : ∀ ρ, Lib.index (lx.map (byteC ρ)) (ly.map (byteC ρ)) = i) : LibSays P G H "bytes.Index" [x, y] (.int .i64 i)

theorem index_of {t s : List Nat} {j : Int} {ρ : Env} (h : (Lib.index (s.map (byteC ρ)) (t.map (byteC ρ)) = -1 ∧ j = -1) ∨ (Lib.index (s.map (byteC ρ)) (t.map (byteC ρ)) ≠ -1 ∧ j = Lib.index (s.map (byteC ρ)) (t.map (byteC ρ)) + (0 : Nat))) :
    Lib.index (s.map (byteC ρ)) (t.map (byteC ρ)) = j := by
  rcases h with ⟨h1, h2⟩ | ⟨_, h2⟩
  · rw [h1, h2]
  · rw [h2]; simp

theorem bytesOfAV_ok {cells : List AV} {k : List Nat → Option R} (h : lmap (fun (v : AV) (k : Nat → Option R) => byteOfAV v k) cells k = some r) :
    ∃ l, k l = some r ∧ l.length = cells.length ∧ ∀ ρ, concs ρ cells = l.map fun c => Value.int .u8 ((byteC ρ c).toNat : Int) := by
  obtain ⟨l, h, hll, hall⟩ := lmap_some (Q := fun (v : AV) (c : Nat) => ∀ ρ, conc ρ v = .int .u8 ((byteC ρ c).toNat : Int)) (fun x _ k r hx => byteOfAV_ok hx) h
  refine ⟨l, h, hll, fun ρ => ?_⟩
  apply List.ext_getElem?
  intro j
  simp only [concs_get, List.getElem?_map]
  rcases Nat.lt_or_ge j cells.length with hj | hj
  · have hj' : j < l.length := by omega
    rw [List.getElem?_eq_getElem hj, List.getElem?_eq_getElem hj']
    exact congrArg some (hall j _ _ (List.getElem?_eq_getElem hj) (List.getElem?_eq_getElem hj') ρ)
  · rw [List.getElem?_eq_none hj, List.getElem?_eq_none (by omega)]; rfl

theorem evLib_ok {name : String} {args : List AV} {H : Heap} {k : AV → Option R} (h : evLib P G name args H k = some r) :
    ∃ v, k v = some r ∧ LibSays P G H name args v ∧ ∀ m, v.lt m := by
  unfold evLib at h
  split at h
  · rename_i l t
    obtain ⟨hc, h0⟩ := cond_some h
    clear h
    rw [Bool.and_eq_true] at hc
    have hn := beq_iff_eq.1 hc.1
    have hl := blt_lt hc.2
    clear hc
    subst hn
    have h := h0
    clear h0
    rw [llen_eq] at hl
    obtain ⟨hm, h⟩ := mxK_ok h
    obtain ⟨j, h, hj⟩ := findK_ok t l 0 h
    exact ⟨_, h, .index hm hl fun ρ => index_of (hj ρ), fun m => by simp [AV.lt]⟩
  · rename_i x sep hne
    obtain ⟨hn0, h0⟩ := cond_some h
    clear h
    have hn := beq_iff_eq.1 hn0
    clear hn0
    subst hn
    have h := h0
    clear h0
    obtain ⟨cells, h, hx⟩ := cells1_ok h
    obtain ⟨xs, h, hl, hall⟩ := lmap_some (Q := fun (v : AV) (l : List Nat) => v = .str l) (fun v _ k r hv => by
      unfold strOf at hv
      split at hv
      · exact ⟨_, hv, rfl⟩
      · cases hv) h
    obtain ⟨l, h, hj⟩ := joinK_ok h
    obtain ⟨hc, h⟩ := cond_some h
    rw [Bool.and_eq_true] at hc
    have h1 := blt_lt hc.1
    have h2 := blt_lt hc.2
    rw [llen_eq] at h1 h2
    refine ⟨_, h, .join hx ?_ (by omega) h2 hj, fun m => by simp [AV.lt]⟩
    apply List.ext_getElem?
    intro j
    rw [List.getElem?_map]
    rcases Nat.lt_or_ge j cells.length with hj | hj
    · have hj' : j < xs.length := by omega
      rw [List.getElem?_eq_getElem hj, List.getElem?_eq_getElem hj']
      exact congrArg some (hall j _ _ (List.getElem?_eq_getElem hj) (List.getElem?_eq_getElem hj'))
    · rw [List.getElem?_eq_none hj, List.getElem?_eq_none (by omega)]; rfl
  · rename_i x y hne1 hne2
    obtain ⟨hn0, h0⟩ := cond_some h
    clear h
    have hn := beq_iff_eq.1 hn0
    clear hn0
    subst hn
    have h := h0
    clear h0
    obtain ⟨hm, h⟩ := mxK_ok h
    obtain ⟨cx, h, hx⟩ := cells1_ok h
    obtain ⟨lx, h, _, hlx⟩ := bytesOfAV_ok h
    obtain ⟨cy, h, hy⟩ := cells1_ok h
    obtain ⟨ly, h, _, hly⟩ := bytesOfAV_ok h
    obtain ⟨hc, h⟩ := cond_some h
    rw [Bool.and_eq_true] at hc
    have hc1 := blt_lt hc.1
    have hc2 := blt_lt hc.2
    rw [llen_eq] at hc1 hc2
    obtain ⟨j, h, hj⟩ := findK_ok ly lx 0 h
    exact ⟨_, h, .bindex hm hx hy hlx hly hc1 hc2 fun ρ => index_of (hj ρ), fun m => by simp [AV.lt]⟩
  · cases h
end
end Go.Proofs.YtnllmelmmcapcaaGreatDoor.Ev
