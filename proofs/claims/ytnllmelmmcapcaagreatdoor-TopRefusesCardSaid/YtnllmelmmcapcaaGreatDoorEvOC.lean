/- Binary operators, conversions, assertions. -/
import Derived.Test.YtnllmelmmcapcaaGreatDoorEvOB
namespace Go.Proofs.YtnllmelmmcapcaaGreatDoor.Ev
open Go Go.RowKit
set_option linter.unusedVariables false

section
variable {R : Type} {P : Program} {r : R}

theorem eqlOp {t : TypeId} {a b : Value} (ha : ∀ k n, a ≠ .int k n) (hf : ∀ k n, a ≠ .float k n) (hc : ∀ k n m, a ≠ .complex k n m) (hs : ∀ s, a ≠ .string s) :
    binOp .eql t a b = (do pure (.bool (← Op.equal t a b))) ∧ binOp .neq t a b = (do pure (.bool (!(← Op.equal t a b)))) := by
  cases a <;> first
    | exact absurd rfl (ha _ _)
    | exact absurd rfl (hf _ _)
    | exact absurd rfl (hc _ _ _)
    | exact absurd rfl (hs _)
    | (constructor <;> cases b <;> rfl)

theorem notNum_conc {ρ : Env} {x : AV} (h : notNum x = true) : (∀ k n, conc ρ x ≠ .int k n) ∧ (∀ k n, conc ρ x ≠ .float k n) ∧ (∀ k n m, conc ρ x ≠ .complex k n m) ∧ ∀ s, conc ρ x ≠ .string s := by
  cases x <;> first
    | (simp [notNum] at h; done)
    | (simp only [conc]; refine ⟨?_, ?_, ?_, ?_⟩ <;> intros <;> first | exact Value.noConfusion | (split <;> exact Value.noConfusion))

theorem evBin_ok {op : BinOp} {t : TypeId} {x y : AV} {k : AV → Option R} (h : evBin P op t x y k = some r) :
    ∃ v, k v = some r ∧ (∀ x' y' ρ w, (do eqGuard op t x' y' (conc ρ x) (conc ρ y); binOp op t (conc ρ x) (conc ρ y) : Sem Value).run P w = .ok (conc ρ v) w) ∧ ∀ n, v.lt n := by
  have guard : ∀ {a b : Value}, (∀ (h1 : a = .nilIface) (h2 : b = .nilIface), False) → (∀ c d, a = .agg c → b = .agg d → False) → ∀ op x' y' w, (eqGuard op t x' y' a b).run P w = .ok () w := fun {a b} h1 h2 op x' y' w => by
    unfold eqGuard
    cases a <;> cases b <;> first | (split <;> rfl) | exact (h1 rfl rfl).elim | exact (h2 _ _ rfl rfl).elim
  unfold evBin at h
  split at h
  · obtain ⟨v, h, h1, h2⟩ := evInt_ok (P := P) (t := t) h
    refine ⟨v, h, fun x' y' ρ w => ?_, h2⟩
    simp only [Sem.run_bind, conc]
    rw [guard (by simp) (by simp)]
    exact h1 ρ w
  · obtain ⟨v, h, h1, h2⟩ := evStr_ok (P := P) (t := t) h
    refine ⟨v, h, fun x' y' ρ w => ?_, h2⟩
    simp only [Sem.run_bind]
    rw [guard (by simp [conc]) (by simp [conc])]
    exact h1 ρ w
  · obtain ⟨hn, h⟩ := cond_some h
    split at h
    · obtain ⟨c, h, h1, h2⟩ := evEq_ok h
      refine ⟨_, h, fun x' y' ρ w => ?_, fun n => by simp [AV.lt]⟩
      obtain ⟨q1, q2, q3, q4⟩ := notNum_conc (ρ := ρ) hn
      have he : (Op.equal t (conc ρ x) (conc ρ y)).run P w = .ok c w := h1 ρ w 9998
      simp only [Sem.run_bind, h2 _ x' y' ρ w, Result.andThen_ok, (eqlOp q1 q2 q3 q4).1, he, Sem.run_pure, conc]
    · obtain ⟨c, h, h1, h2⟩ := evEq_ok h
      rw [boolK_eq] at h
      refine ⟨_, h, fun x' y' ρ w => ?_, fun n => by simp [AV.lt]⟩
      obtain ⟨q1, q2, q3, q4⟩ := notNum_conc (ρ := ρ) hn
      have he : (Op.equal t (conc ρ x) (conc ρ y)).run P w = .ok c w := h1 ρ w 9998
      simp only [Sem.run_bind, h2 _ x' y' ρ w, Result.andThen_ok, (eqlOp q1 q2 q3 q4).2, he, Sem.run_pure, conc]
    · cases h

theorem byteOfAV_ok {v : AV} {k : Nat → Option R} (h : byteOfAV v k = some r) : ∃ c, k c = some r ∧ ∀ ρ, conc ρ v = .int .u8 ((byteC ρ c).toNat : Int) := by
  unfold byteOfAV at h
  split at h
  · obtain ⟨hc, h⟩ := cond_some h
    exact ⟨_, h, fun ρ => by simp [conc, byteC_lt (blt_lt hc)]⟩
  · rename_i j
    rw [natK_eq] at h
    exact ⟨_, h, fun ρ => by simp [conc, byteC_ge (show ¬ j + 256 < 256 by omega)]⟩
  · cases h

theorem push_fold (l : List UInt8) : ∀ (s : ByteArray), (l.map fun c => (c.toNat : Int)).foldl (fun r n => r.push (UInt8.ofNat n.toNat)) s = ⟨s.data ++ l.toArray⟩ := by
  induction l with
  | nil => intro s; simp
  | cons c l ih =>
    intro s
    rw [List.map_cons, List.foldl_cons, ih]
    apply ByteArray.ext
    apply Array.ext'
    simp [ByteArray.push]

theorem u8K_ok {e : TypeId} {k : Option R} (h : u8K P e k = some r) : P.underlying e = some (.int .u8) ∧ k = some r := by
  unfold u8K at h
  split at h
  · exact ⟨‹_›, h⟩
  · cases h

/-- A block's mark, set behind its cells. -/
theorem Rep.freeze {ρ : Env} {H : Heap} {n : Nat} {w0 w : World} (h : Rep ρ H n w0 w) {b : Nat} {B : Blk} (hB : H.get b = some B) :
    ∃ e m, w.shape? (ρ.blk b) = some (e, m) ∧ Rep ρ H n w0 (w.freeze ⟨ρ.blk b, m, none⟩ 1) := by
  obtain ⟨cs, lo, hi, r1, r2, r3⟩ := (h.ok b B hB).row
  refine ⟨B.T, cs.size, by simp [World.shape?, r1], ?_⟩
  have hw : (w.freeze ⟨ρ.blk b, cs.size, none⟩ 1).heap = w.heap.modify (ρ.blk b) (fun | .cells c elem (lo, hi) => .cells c elem (if lo == hi then (cs.size, cs.size + 1) else (min lo cs.size, max hi (cs.size + 1))) | o => o) := rfl
  have hat : ∀ g, g ≠ ρ.blk b → (w.freeze ⟨ρ.blk b, cs.size, none⟩ 1).heap[g]? = w.heap[g]? := fun g hg => by
    rw [hw, Array.getElem?_modify, if_neg (Ne.symm hg)]
  have hb' : ∃ lo' hi', (w.freeze ⟨ρ.blk b, cs.size, none⟩ 1).heap[ρ.blk b]? = some (.cells cs B.T (lo', hi')) ∧ Fz lo' hi' cs.size := by
    rw [hw, Array.getElem?_modify, if_pos rfl, r1]
    by_cases e : lo = hi
    · exact ⟨cs.size, cs.size + 1, by simp [e], .inr ⟨Nat.le_refl _, Nat.le_succ _⟩⟩
    · have : cs.size ≤ lo ∧ lo ≤ hi := by rcases r2 with h | h; exact absurd h e; exact h
      exact ⟨min lo cs.size, max hi (cs.size + 1), by simp [e], .inr ⟨by omega, by omega⟩⟩
  refine ⟨h.lt, h.old, h.cells, fun c C hc => ?_, h.inj, ?_, fun g o hg => ?_, h.apart⟩
  · by_cases e : c = b
    · subst e
      rw [hB] at hc; cases hc
      obtain ⟨lo', hi', q1, q2⟩ := hb'
      exact ⟨cs, lo', hi', q1, q2, r3⟩
    · obtain ⟨cs', lo', hi', q1, q2⟩ := (h.ok c C hc).row
      exact ⟨cs', lo', hi', by rw [hat _ (fun e2 => e (h.inj c b C B hc hB e2))]; exact q1, q2⟩
  · have hx := h.old b B hB
    exact ⟨h.upd.os, h.upd.tape, h.upd.output, by rw [hw, Array.size_modify]; exact h.upd.size, fun k hk hkF => by rw [hat k (by omega)]; exact h.upd.block k hk hkF⟩
  · rw [hat g (fun e => by have := h.apart b B hB; rw [← e, hg] at this; cases this)]
    exact h.frame g o hg

theorem evSame_ok {src dst e ds : TypeId} {x : AV} {H : Heap} {m : Nat} {k : AV → Heap → Nat → Option R} (hs : P.underlying src = some (.slice ds)) (hd : P.underlying dst = some (.slice e)) (h : evSame P src dst e x H m k = some r) :
    ∃ v H' m', k v H' m' = some r ∧ Does P (fun ρ => convert src dst (conc ρ x)) [x] H m v H' m' := by
  unfold evSame at h
  obtain ⟨he, h1⟩ := cond_some h
  have he' := beq_eq' he
  obtain ⟨hu, h2⟩ := u8K_ok h1
  clear h h1 he
  subst he'
  have h := h2
  clear h2
  cases x with
  | sl b o len cap =>
    obtain ⟨B, hB, h⟩ := blkK_some h
    refine ⟨_, _, _, h, fun ρ w0 w hR hlt => ?_⟩
    obtain ⟨t, n, h1, h2⟩ := hR.freeze hB
    refine ⟨ρ, _, Ext.refl _ _, Nat.le_refl _, ?_, by simpa [ltAll] using hlt, h2⟩
    obtain rfl : ds = e := by rw [hs] at hd; cases hd; rfl
    simp [convert, run_underlying hs, run_underlying hu, conc, markStringish, Env.addr, h1]
  | _ => cases h

theorem evConvert_ok {src dst : TypeId} {x : AV} {H : Heap} {m : Nat} {k : AV → Heap → Nat → Option R} (h : evConvert P src dst x H m k = some r) :
    ∃ v H' m', k v H' m' = some r ∧ Does P (fun ρ => convert src dst (conc ρ x)) [x] H m v H' m' := by
  unfold evConvert at h
  obtain ⟨ds, hs, h⟩ := und_ok h
  obtain ⟨dd, hd, h⟩ := und_ok h
  cases dd with
  | int kd =>
    cases x with
    | int kx n =>
      change intK _ _ = _ at h
      rw [intK_eq] at h
      exact ⟨_, _, _, h, fun ρ w0 w hR _ => ⟨ρ, w, Ext.refl _ _, Nat.le_refl _, by simp [convert, run_underlying hs, run_underlying hd, conc, Conv.intToInt], by simp [AV.lt], hR⟩⟩
    | _ => cases h
  | slice e =>
    by_cases hsl : ∃ e', ds = .slice e'
    · obtain ⟨e', rfl⟩ := hsl
      exact evSame_ok hs hd h
    have h : evToBytes P ds e x H m k = some r := by
      cases ds with
      | slice e' => exact absurd ⟨_, rfl⟩ hsl
      | _ => exact h
    unfold evToBytes at h
    cases ds with
    | string =>
      obtain ⟨he, h⟩ := u8K_ok h
      · cases x with
        | str l =>
          change lmap _ _ _ = _ at h
          obtain ⟨cells, h, hl, hc, hlt⟩ := bytesAV_ok h
          rw [natK_eq, llen_eq] at h
          obtain ⟨H', hH, h⟩ := newK_some h
          refine ⟨_, _, _, h, fun ρ w0 w hR _ => ?_⟩
          have hrun := run_bytes_of_string (P := P) w src dst e ⟨(l.map (byteC ρ)).toArray⟩ hs hd he
          have hge := grownCap_ge w (⟨(l.map (byteC ρ)).toArray⟩ : ByteArray).size 0 e
          rw [str_size] at hrun hge
          generalize grownCap w l.length 0 e = c at *
          have hrow : (bytesRow ⟨(l.map (byteC ρ)).toArray⟩ c) = (concs ρ cells).toArray ++ Array.replicate (c - l.length) (.int .u8 0) := by
            unfold bytesRow
            rw [hc ρ, str_size]
            congr 1
            apply Array.ext'
            simp
          have hsz : (bytesRow ⟨(l.map (byteC ρ)).toArray⟩ c).size = c := by rw [hrow]; simp [concs_length, hl]; omega
          obtain ⟨ρ', e1, e2, e3, e4, e5⟩ := hR.drew.add (B := ⟨e, 1, true, cells⟩) (g := w.heap.size) (s := 0) (c := c) (w' := w.drew.alloc (.cells (bytesRow ⟨(l.map (byteC ρ)).toArray⟩ c) e ((bytesRow ⟨(l.map (byteC ρ)).toArray⟩ c).size, (bytesRow ⟨(l.map (byteC ρ)).toArray⟩ c).size + 1))) hH
            (hR.drew.upd.alloc _) hR.upd.size (hR.drew.fr_alloc _) hR.drew.fr_new (fun b B' hb => ⟨by have := hR.lt_heap hb; omega, Below.heap_alloc _ _ _ (hR.drew.lt_heap hb)⟩) ((ltAll_iff _ _).1 (hlt m))
            ⟨_, _, _, heap_alloc_new w.drew _, .inr ⟨Nat.le_refl _, Nat.le_succ _⟩, fun j v hv => by
              have hj := (List.getElem?_eq_some_iff.1 hv).1
              rw [Nat.zero_add, hrow, Array.getElem?_append_left (by rw [List.size_toArray, concs_length]; exact hj), List.getElem?_toArray, concs_get, hv]; rfl,
              fun _ => ⟨Nat.one_pos, by rw [hsz]; show 0 + c * 1 = c; omega⟩, fun e => by cases e⟩
          refine ⟨ρ', _, e1, by omega, ?_, by simp [AV.lt], e5⟩
          simp only [conc]
          rw [hrun]
          simp [Env.addr, e2, e3, e4]
        | _ => cases h
    | _ => cases h
  | string =>
    change evToStr P ds x H m k = _ at h
    unfold evToStr at h
    cases ds with
    | string =>
      cases x with
      | str l => exact ⟨_, _, _, h, fun ρ w0 w hR _ => ⟨ρ, w, Ext.refl _ _, Nat.le_refl _, by simp [convert, run_underlying hs, run_underlying hd, conc], by simp [AV.lt], hR⟩⟩
      | _ => cases h
    | slice e =>
      obtain ⟨he, h⟩ := u8K_ok h
      · have h : (lenK x fun n => showK 1 x H n fun cells => lmap (fun (v : AV) (k : Nat → Option R) => byteOfAV v k) cells fun l => k (.str l) H m) = some r ∧ ∀ l, x ≠ .str l := by
          cases x with
          | str l => cases h
          | _ => exact ⟨h, fun l => by simp⟩
        obtain ⟨h, hne⟩ := h
        have hna : ∀ j, x ≠ .any j := fun j e => by subst e; cases h
        obtain ⟨n, h, hlen⟩ := lenK_ok (P := P) h
        obtain ⟨cells, h, hl, hshow⟩ := showK_ok (P := P) h
        obtain ⟨l, h, hll, hall⟩ := lmap_some (Q := fun (v : AV) (c : Nat) => ∀ ρ, conc ρ v = .int .u8 ((byteC ρ c).toNat : Int)) (fun x _ k r hx => byteOfAV_ok hx) h
        refine ⟨_, _, _, h, fun ρ w0 w hR hlt => ⟨ρ, w, Ext.refl _ _, Nat.le_refl _, ?_, by simp [AV.lt], hR⟩⟩
        obtain ⟨c1, _⟩ := hshow ρ m w0 w hR
        have hn := hlen ρ w
        have hcs : concs ρ cells = ((l.map (byteC ρ)).map fun c => (c.toNat : Int)).map (Value.int .u8) := by
          apply List.ext_getElem?
          intro j
          simp only [concs_get, List.getElem?_map]
          rcases Nat.lt_or_ge j cells.length with hj | hj
          · have hj' : j < l.length := by omega
            rw [List.getElem?_eq_getElem hj, List.getElem?_eq_getElem hj']
            exact congrArg some (hall j _ _ (List.getElem?_eq_getElem hj) (List.getElem?_eq_getElem hj') ρ)
          · rw [List.getElem?_eq_none hj, List.getElem?_eq_none (by omega)]; rfl
        have fin : ∀ a len cap, conc ρ x = .slice a len cap → (convert src dst (conc ρ x)).run P w = .ok (conc ρ (.str l)) w := fun a len cap hx => by
          rw [hx] at hn c1 ⊢
          have hln : len = n := by simpa [Builtin.lenOf] using hn
          subst hln
          rw [run_convert_bytes_string w src dst e a len cap hs he hd]
          cases a with
          | none =>
            have hc0 : concs ρ cells = [] := by
              have : (#[] : Array Value) = (concs ρ cells).toArray := by simpa [Builtin.firstCells] using c1
              simpa using this.symm
            have hl0 : l = [] := List.eq_nil_of_length_eq_zero (by rw [hll, ← concs_length ρ, hc0]; rfl)
            subst hl0
            simp [Conv.bytesToString, conc]
            rfl
          | some a =>
            have hld : (loadCells a len).run P w = .ok (concs ρ cells).toArray w := by simpa [Builtin.firstCells] using c1
            rw [hcs] at hld
            rw [run_bytesToString w a len cap _ hld, push_fold]
            simp [conc]
        cases x with
        | sl b o len cap => exact fin (some (ρ.addr b o)) len cap (by simp only [conc])
        | slo b i es len => exact fin (some (ρ.addr b (i * es))) len (ρ.cap b - i) (by simp only [conc])
        | slz b i es l0 =>
          by_cases hc : ρ.cap b - i = l0
          · exact fin (some (ρ.addr b (i * es))) 0 0 (by simp only [conc]; rw [if_pos hc])
          · exact fin (some (ρ.addr b ((i + l0) * es))) 0 (ρ.cap b - i - l0) (by simp only [conc]; rw [if_neg hc])
        | nilsl => exact fin none 0 0 (by simp only [conc])
        | str l => exact absurd rfl (hne l)
        | any j => exact absurd rfl (hna j)
        | _ => simp [conc, Builtin.lenOf] at hn
    | _ => cases h
  | _ => cases h
end
end Go.Proofs.YtnllmelmmcapcaaGreatDoor.Ev
