/- append. -/
import Derived.Test.YtnllmelmmcapcaaGreatDoorEvO7
namespace Go.Proofs.YtnllmelmmcapcaaGreatDoor.Ev
open Go Go.RowKit
set_option linter.unusedVariables false

section
variable {R : Type} {P : Program} {r : R}

theorem fitK_ok' {H : Heap} {b es n : Nat} {k : Option R} (h : fitK H b es n k = some r) : (∀ B, H.get b = some B → B.opn = true ∧ B.es = es) ∧ k = some r ∧ ∀ ρ m w0 w, Rep ρ H m w0 w → n ≤ ρ.cap b ∧ 0 < es := by
  refine ⟨fun B hB => ?_, fitK_ok h⟩
  unfold fitK at h
  obtain ⟨B', hB', h⟩ := blkK_some h
  obtain rfl : B' = B := by rw [hB] at hB'; cases hB'; rfl
  obtain ⟨hc, h⟩ := cond_some h
  simp only [Bool.and_eq_true] at hc
  exact ⟨hc.1.1, beq_eq' hc.1.2⟩

theorem growK_ok {e : TypeId} {es : Nat} {cells : List AV} {need : Nat} {H : Heap} {m : Nat} {k : AV → Heap → Nat → Option R} (h : growK P e es cells need H m k = some r) :
    ∃ H' i z, k (.slo m 0 es need) H' (m + 1) = some r ∧ P.info? e = some i ∧ i.zero = some z ∧ z.cells.size = es ∧ i.bytes < 1000000 ∧ need < 1000000 ∧ ∀ j, H'.get j = if j = m then some ⟨e, es, true, cells⟩ else H.get j := by
  unfold growK at h
  obtain ⟨hn, h⟩ := cond_some h
  obtain ⟨i, hi, hb, h⟩ := smallK_ok h
  obtain ⟨i2, z, av, hi2, hz, h, hc⟩ := zeroOf_ok h
  obtain rfl : i2 = i := by rw [hi] at hi2; cases hi2; rfl
  obtain ⟨zl, h, hzc, _⟩ := cellsK_ok h
  obtain ⟨hl, h⟩ := cond_some h
  obtain ⟨H', hH, h⟩ := newK_some h
  refine ⟨H', i2, z, h, hi, hz, ?_, hb, blt_lt hn, hH⟩
  have e1 := hzc ⟨fun _ => 0, fun _ => 0, fun _ => 0, fun _ => 0, fun _ => .nilFunc, fun _ => none⟩
  rw [hc.1] at e1
  rw [e1, List.size_toArray, concs_length]
  rw [llen_eq] at hl
  exact beq_eq' hl

/-- There is room. -/
theorem run_append_room' {t tx ty e : TypeId} {i : TypeInfo} {w w' : World} (ht : P.underlying t = some (.slice e)) (hi : P.info? e = some i) {base : Option Addr} {sLen sCap : Nat} {x : Value} {n : Nat} {news : List Value} (hs : Src P i.size tx x n news w)
    (hroom : sLen + n ≤ sCap) (hst : ∀ a, base = some a → (storeCells (a.add (sLen * i.size)) news).run P w = .ok () w') (hno : base = none → w' = w) :
    (Builtin.append_ #[t, tx] ty #[.slice base sLen sCap, x]).run P w = .ok (.slice base (sLen + n) sCap) w' := by
  cases base with
  | none =>
    have e := hno rfl
    subst e
    rcases hs.kind with ⟨e', hk⟩ | hk <;> simp [Builtin.append_, run_underlying ht, run_underlying hk, sizeOf, typeInfo, hi, hs.len, hroom, hs.cells]
  | some a =>
    have := hst a rfl
    rcases hs.kind with ⟨e', hk⟩ | hk <;> simp [Builtin.append_, run_underlying ht, run_underlying hk, sizeOf, typeInfo, hi, hs.len, hroom, hs.cells, this]

/-- What an append comes to. -/
def Appends (P : Program) (t e : TypeId) (i : TypeInfo) (s : AV) (n : Nat) (new : List AV) (H : Heap) (m : Nat) (v : AV) (H' : Heap) (m' : Nat) : Prop :=
  ∀ ρ w0 w x tx ty, Rep ρ H m w0 w → s.lt m → ltAll m new → Src P i.size tx x n (concs ρ new) w →
    ∃ ρ' w', Ext m ρ ρ' ∧ m ≤ m' ∧ (Builtin.append_ #[t, tx] ty #[conc ρ s, x]).run P w = .ok (conc ρ' v) w' ∧ v.lt m' ∧ Rep ρ' H' m' w0 w'

/-- Growing: into a block of its own. -/
theorem grows {t e : TypeId} {i : TypeInfo} {z : Value} {H H' : Heap} {m need : Nat} {cells : List AV} {ρ : Env} {w0 w : World} (ht : P.underlying t = some (.slice e)) (hi : P.info? e = some i) (hz : i.zero = some z) (hzs : z.cells.size = i.size) (hpos : 0 < i.size)
    (hb : i.bytes < 1000000) (hn : need < 1000000) (hH : ∀ j, H'.get j = if j = m then some ⟨e, i.size, true, cells⟩ else H.get j) (hlen : cells.length = need * i.size) (hR : Rep ρ H m w0 w) (hlt : ltAll m cells)
    {base : Option Addr} {sLen sCap n : Nat} {olds news : List Value} {x : Value} {tx ty : TypeId} (hold : (Builtin.firstCells i.size sLen (.slice base sLen sCap)).run P w.drew = .ok olds.toArray w.drew) (hs : Src P i.size tx x n news w)
    (hneed : sLen + n = need) (hg : sCap < need) (hcat : olds ++ news = concs ρ cells) :
    ∃ ρ' w', Ext m ρ ρ' ∧ (Builtin.append_ #[t, tx] ty #[.slice base sLen sCap, x]).run P w = .ok (conc ρ' (.slo m 0 i.size need)) w' ∧ Rep ρ' H' (m + 1) w0 w' := by
  subst hneed
  have hfit : (sLen + n) * i.bytes ≤ 140737488355328 := Nat.le_trans (Nat.mul_le_mul (Nat.le_of_lt hn) (Nat.le_of_lt hb)) (by omega)
  have hrun := run_append_grow_src w t tx ty e i z ht hi hz base sLen sCap olds hold x n news hs hg (by omega) (growslice_fits hg hfit)
  have hge := grownCap_ge w (sLen + n) sCap e
  generalize grownCap w (sLen + n) sCap e = c at *
  rw [hcat] at hrun
  have hsz : (Builtin.zeroCells z.cells (c - (sLen + n))).size = (c - (sLen + n)) * i.size := by simp [Builtin.zeroCells, hzs]
  obtain ⟨ρ', e1, e2, e3, e4, e5⟩ := hR.drew.new (c := c) (cs := (concs ρ cells).toArray ++ Builtin.zeroCells z.cells (c - (sLen + n))) hH ((ltAll_iff _ _).1 hlt) (fun j v hv => by
    have hj := (List.getElem?_eq_some_iff.1 hv).1
    rw [Array.getElem?_append_left (by rw [List.size_toArray, concs_length]; exact hj), List.getElem?_toArray, concs_get, hv]; rfl)
    (fun _ => ⟨hpos, by rw [Array.size_append, List.size_toArray, concs_length, hlen, hsz, ← Nat.add_mul]; congr 1; omega⟩) (fun e => by cases e)
  refine ⟨ρ', _, e1, ?_, e5⟩
  rw [hrun]
  simp [conc, Env.addr, e2, e3, e4]

theorem ltAll_app {n : Nat} {a b : List AV} (ha : ltAll n a) (hb : ltAll n b) : ltAll n (a ++ b) := by
  rw [ltAll_iff] at *
  intro v hv
  rcases List.mem_append.1 hv with hv | hv
  · exact ha v hv
  · exact hb v hv

/-- In place, behind what an open block shows: the block is known anew from there on. -/
theorem inplace {e : TypeId} {es : Nat} {H H1 H' : Heap} {m b q len n : Nat} {B : Blk} {old new : List AV} {ρ : Env} {w0 w : World} (hR : Rep ρ H m w0 w) (hB : H.get b = some B) (ho : B.opn = true) (hes : B.es = es) (hT : B.T = e)
    (hH1 : ∀ j, H1.get j = if j = b then none else H.get j) (hH : ∀ j, H'.get j = if j = m then some ⟨e, es, true, old ++ new⟩ else H1.get j) (hol : old.length = len * es) (hnl : new.length = n * es)
    (hold : ∀ (x : Nat) v, old[x]? = some v → B.cells[q * es + x]? = some v) (hfit : q + len + n ≤ ρ.cap b) (hnew : ltAll m new) (hs : lall scal new = true) :
    ∃ ρ' w', Ext m ρ ρ' ∧ (storeCells ((ρ.addr b (q * es)).add (len * es)) (concs ρ new)).run P w = .ok () w' ∧ ρ'.addr m 0 = ρ.addr b (q * es) ∧ ρ'.cap m = ρ.cap b - q ∧ Rep ρ' H' (m + 1) w0 w' := by
  obtain ⟨cs, lo, hi, r1, r2, r3, r4, r5⟩ := (hR.ok b B hB).row
  obtain ⟨p1, p2⟩ := r4 ho
  rw [hes] at p1 p2
  have hmul : (q + len + n) * es ≤ ρ.cap b * es := Nat.mul_le_mul_right _ hfit
  rw [Nat.add_mul, Nat.add_mul] at hmul
  have hone : ∀ v ∈ concs ρ new, v.oneCell' = true := fun v hv => by
    rw [concs_eq] at hv
    obtain ⟨u, hu, rfl⟩ := List.mem_map.1 hv
    exact scal_one ((lall_iff _ _).1 hs u hu)
  have hst := run_store_row (P := P) (ρ.blk b) (ρ.sh b + (q * es + len * es)) B.T (lo, hi) (concs ρ new) 0 cs w r1 r2.free (by rw [concs_length, hnl]; omega) hone
  have hlen2 : ρ.sh b + (q * es + len * es) + 0 + (concs ρ new).length ≤ cs.toList.length := by rw [concs_length, hnl, Array.length_toList]; omega
  have hK := hR.kill hH1
  have hget1 : ∀ c Bc, H1.get c = some Bc → c ≠ b ∧ H.get c = some Bc := fun c Bc hc => by
    rw [hH1] at hc
    by_cases e : c = b
    · rw [if_pos e] at hc; cases hc
    · rw [if_neg e] at hc; exact ⟨e, hc⟩
  obtain ⟨ρ', e1, e2, e3, e4, e5⟩ := hK.add (w' := w.setRow (ρ.blk b) (splice cs.toList (ρ.sh b + (q * es + len * es) + 0) (concs ρ new)).toArray) (g := ρ.blk b) (s := ρ.sh b + q * es) (c := ρ.cap b - q) (B := ⟨e, es, true, old ++ new⟩) hH
    (hR.upd.setRow (.inr (hR.old b B hB)) _) (hR.old b B hB)
    (fun g' o hg' => by
      rw [setRow_other w (ρ.blk b) g' _ (fun e => by have := hR.apart b B hB; rw [← e, hg'] at this; cases this)]
      exact hR.frame g' o hg')
    (hR.apart b B hB)
    (fun c Bc hc => by
      obtain ⟨n1, n2⟩ := hget1 c Bc hc
      exact ⟨fun e => n1 (hR.inj c b Bc B n2 hB e), setRow_other w (ρ.blk b) (ρ.blk c) _ (fun e => n1 (hR.inj c b Bc B n2 hB e))⟩)
    (fun v hv => by
      rcases List.mem_append.1 hv with hv | hv
      · obtain ⟨x, hx⟩ := List.getElem?_of_mem hv
        exact hR.cells b B hB v (List.mem_of_getElem? (hold x v hx))
      · exact (ltAll_iff _ _).1 hnew v hv)
    ⟨_, lo, hi, by rw [← hT]; exact setRow_heap w (ρ.blk b) cs _ B.T (lo, hi) r1, by rw [List.size_toArray, splice_length _ _ _ hlen2, Array.length_toList]; exact r2, fun x v hx => by
      rw [List.getElem?_toArray, splice_get _ _ _ _ hlen2, concs_length, hnl]
      rw [List.getElem?_append] at hx
      by_cases hxo : x < old.length
      · rw [if_pos hxo] at hx
        rw [if_neg (by omega), Array.getElem?_toList]
        have := r3 _ v (hold x v hx)
        rwa [← Nat.add_assoc] at this
      · rw [if_neg hxo] at hx
        have hx2 := (List.getElem?_eq_some_iff.1 hx).1
        rw [if_pos (by omega), concs_get, show ρ.sh b + q * es + x - (ρ.sh b + (q * es + len * es) + 0) = x - old.length by omega, hx]; rfl,
      fun _ => ⟨p1, by
        show ρ.sh b + q * es + (ρ.cap b - q) * es = _
        rw [List.size_toArray, splice_length _ _ _ hlen2, Array.length_toList, ← p2, Nat.sub_mul]
        have : q * es ≤ ρ.cap b * es := by omega
        omega⟩, fun e => by cases e⟩
  refine ⟨ρ', _, e1, ?_, ?_, e4, e5⟩
  · rw [addr_add']; exact hst
  · unfold Env.addr; rw [e2, e3]; rfl

theorem evApp_ok {t e : TypeId} {i : TypeInfo} {s : AV} {n : Nat} {new : List AV} {H : Heap} {m : Nat} {k : AV → Heap → Nat → Option R} (ht : P.underlying t = some (.slice e)) (hi : P.info? e = some i) (hpos : 0 < i.size) (hl : new.length = n * i.size) (hs : lall scal new = true)
    (h : evApp P e i.size s n new H m k = some r) : ∃ v H' m', k v H' m' = some r ∧ Appends P t e i s n new H m v H' m' := by
  cases s with
  | nilsl =>
    have h : cond (Nat.beq n 0) (k .nilsl H m) (growK P e i.size new n H m k) = some r := h
    cases hn : Nat.beq n 0 with
    | true =>
      rw [hn] at h
      have e0 := beq_eq' hn
      subst e0
      refine ⟨_, _, _, h, fun ρ w0 w x tx ty hR _ _ hsrc => ⟨ρ, w, Ext.refl _ _, Nat.le_refl _, ?_, by simp [AV.lt], hR⟩⟩
      simp only [conc]
      exact run_append_room' ht hi hsrc (Nat.le_refl _) (fun a ha => by cases ha) (fun _ => rfl)
    | false =>
      rw [hn] at h
      have e0 := beq_ne' hn
      obtain ⟨H', i2, z, h, hi2, hz, hzs, hb, hnb, hH⟩ := growK_ok h
      obtain rfl : i2 = i := by rw [hi] at hi2; cases hi2; rfl
      refine ⟨_, _, _, h, fun ρ w0 w x tx ty hR _ hnew hsrc => ?_⟩
      obtain ⟨ρ', w', e1, e2, e3⟩ := grows (P := P) (olds := []) (base := none) (sLen := 0) (sCap := 0) (ty := ty) ht hi hz hzs hpos hb hnb hH hl hR hnew (by simp [Builtin.firstCells]) hsrc (Nat.zero_add _) (by omega) rfl
      exact ⟨ρ', w', e1, by omega, by simpa only [conc] using e2, by simp [AV.lt], e3⟩
  | sl b o len cap =>
    have h : (natK (len + n) fun need => cond (Nat.ble need cap)
      (cond (Nat.beq n 0) (k (.sl b o need cap) H m) (writeK H b (o + len * i.size) new fun H => k (.sl b o need cap) H m))
      (readK H b o (len * i.size) fun old => lapp new old fun cells => growK P e i.size cells need H m k)) = some r := h
    rw [natK_eq] at h
    cases hr : Nat.ble (len + n) cap with
    | true =>
      rw [hr] at h
      have hroom := ble_le hr
      cases hn : Nat.beq n 0 with
      | true =>
        rw [hn] at h
        have e0 := beq_eq' hn
        subst e0
        have hnil : new = [] := List.eq_nil_of_length_eq_zero (by simpa using hl)
        subst hnil
        refine ⟨_, _, _, h, fun ρ w0 w x tx ty hR hlt _ hsrc => ⟨ρ, w, Ext.refl _ _, Nat.le_refl _, ?_, by simpa [AV.lt] using hlt, hR⟩⟩
        simp only [conc]
        exact run_append_room' ht hi hsrc hroom (fun a ha => by simp [concs, storeCells]) (fun _ => rfl)
      | false =>
        rw [hn] at h
        simp only [cond_true, cond_false] at h
        obtain ⟨B, H', hs', hB, hfit, hH, h⟩ := writeK_some h
        refine ⟨_, _, _, h, fun ρ w0 w x tx ty hR hlt hnew hsrc => ?_⟩
        obtain ⟨w', hst, hR'⟩ := hR.write (P := P) hB hfit hnew hs hH
        refine ⟨ρ, w', Ext.refl _ _, Nat.le_refl _, ?_, by simpa [AV.lt] using hlt, hR'⟩
        simp only [conc]
        refine run_append_room' ht hi hsrc hroom (fun a ha => ?_) (fun ha => by cases ha)
        cases ha
        rw [addr_add']; exact hst
    | false =>
      rw [hr] at h
      simp only [cond_false] at h
      have hno : ¬ len + n ≤ cap := fun e => by rw [Nat.ble_eq_true_of_le e] at hr; cases hr
      obtain ⟨B, old, hB, hol, hall, h⟩ := readK_some h
      rw [lapp_eq] at h
      obtain ⟨H', i2, z, h, hi2, hz, hzs, hb, hnb, hH⟩ := growK_ok h
      obtain rfl : i2 = i := by rw [hi] at hi2; cases hi2; rfl
      refine ⟨_, _, _, h, fun ρ w0 w x tx ty hR hlt hnew hsrc => ?_⟩
      obtain ⟨h1, h2⟩ := hR.drew.loads (P := P) hB hall
      obtain ⟨ρ', w', e1, e2, e3⟩ := grows (P := P) (olds := concs ρ old) (base := some (ρ.addr b o)) (sLen := len) (sCap := cap) (ty := ty) ht hi hz hzs hpos hb hnb hH (by rw [List.length_append, hol, hl, Nat.add_mul]) hR
        (ltAll_app h2 hnew) (by rw [hol] at h1; simp [Builtin.firstCells, h1]) hsrc rfl (by omega)
        (by simp [concs_eq])
      exact ⟨ρ', w', e1, by omega, by simpa only [conc] using e2, by simp [AV.lt], e3⟩
  | slo b j e' len =>
    obtain ⟨he, h⟩ := cond_some h
    have he := beq_eq' he
    subst he
    obtain ⟨hbo, h, hfit⟩ := fitK_ok' h
    cases hn : Nat.beq n 0 with
    | true =>
      rw [hn] at h
      have e0 := beq_eq' hn
      subst e0
      have hnil : new = [] := List.eq_nil_of_length_eq_zero (by simpa using hl)
      subst hnil
      refine ⟨_, _, _, h, fun ρ w0 w x tx ty hR hlt _ hsrc => ⟨ρ, w, Ext.refl _ _, Nat.le_refl _, ?_, hlt, hR⟩⟩
      have hf := (hfit ρ m w0 w hR).1
      simp only [conc]
      exact run_append_room' ht hi hsrc (by omega) (fun a ha => by simp [concs, storeCells]) (fun ha => by cases ha)
    | false =>
      rw [hn] at h
      simp only [cond_false, natK_eq] at h
      have hn0 := beq_ne' hn
      obtain ⟨B, hB, h⟩ := blkK_some h
      obtain ⟨hT, h⟩ := cond_some h
      have hT := beq_eq' hT
      rw [ldrop_eq] at h
      obtain ⟨hd1, h⟩ := if_some h
      rw [ltake_eq] at h
      obtain ⟨hd2, h⟩ := if_some h
      rw [lapp_eq] at h
      obtain ⟨H1, h, hH1⟩ := tset_some _ h
      obtain ⟨H', i2, z, hk, hi2, hz, hzs, hb, hnb, hH⟩ := growK_ok h
      clear h
      obtain rfl : i2 = i := by rw [hi] at hi2; cases hi2; rfl
      have hol : ((B.cells.drop (j * i2.size)).take (len * i2.size)).length = len * i2.size := by rw [List.length_take]; omega
      have hold : ∀ (x : Nat) v, ((B.cells.drop (j * i2.size)).take (len * i2.size))[x]? = some v → B.cells[j * i2.size + x]? = some v := fun x v hv => by
        rw [List.getElem?_take] at hv
        split at hv
        · rwa [List.getElem?_drop] at hv
        · cases hv
      generalize (B.cells.drop (j * i2.size)).take (len * i2.size) = old at *
      refine ⟨_, _, _, hk, fun ρ w0 w x tx ty hR hlt hnew hsrc => ?_⟩
      obtain ⟨hf, _⟩ := hfit ρ m w0 w hR
      have hop : B.opn = true ∧ B.es = i2.size := hbo B hB
      obtain ⟨h1, h2⟩ := hR.drew.loads (P := P) hB hold
      by_cases hroom : len + n ≤ ρ.cap b - j
      · obtain ⟨ρ', w', e1, e2, e3, e4, e5⟩ := inplace (P := P) hR hB hop.1 hop.2 hT hH1 hH hol hl hold (by omega) hnew hs
        refine ⟨ρ', w', e1, by omega, ?_, by simp [AV.lt], e5⟩
        simp only [conc, Nat.zero_mul, e3, e4, Nat.sub_zero]
        exact run_append_room' ht hi hsrc hroom (fun a ha => by cases ha; exact e2) (fun ha => by cases ha)
      · obtain ⟨ρ', w', e1, e2, e3⟩ := grows (P := P) (olds := concs ρ old) (base := some (ρ.addr b (j * i2.size))) (sLen := len) (sCap := ρ.cap b - j) (ty := ty) ht hi hz hzs hpos hb hnb hH (by rw [List.length_append, hol, hl, Nat.add_mul]) (hR.kill hH1)
          (ltAll_app h2 hnew) (by rw [hol] at h1; simp [Builtin.firstCells, h1]) hsrc rfl (by omega) (by simp [concs_eq])
        exact ⟨ρ', w', e1, by omega, by simpa only [conc] using e2, by simp [AV.lt], e3⟩
  | slz b j e' l =>
    obtain ⟨he, h⟩ := cond_some h
    have he := beq_eq' he
    subst he
    obtain ⟨hbo, h, hfit⟩ := fitK_ok' h
    cases hn : Nat.beq n 0 with
    | true =>
      rw [hn] at h
      have e0 := beq_eq' hn
      subst e0
      have hnil : new = [] := List.eq_nil_of_length_eq_zero (by simpa using hl)
      subst hnil
      refine ⟨_, _, _, h, fun ρ w0 w x tx ty hR hlt _ hsrc => ⟨ρ, w, Ext.refl _ _, Nat.le_refl _, ?_, hlt, hR⟩⟩
      simp only [conc]
      split
      · exact run_append_room' ht hi hsrc (Nat.le_refl _) (fun a ha => by simp [concs, storeCells]) (fun ha => by cases ha)
      · exact run_append_room' ht hi hsrc (Nat.zero_le _) (fun a ha => by simp [concs, storeCells]) (fun ha => by cases ha)
    | false =>
      rw [hn] at h
      simp only [cond_false] at h
      have hn0 := beq_ne' hn
      obtain ⟨B, hB, h⟩ := blkK_some h
      obtain ⟨hT, h⟩ := cond_some h
      have hT := beq_eq' hT
      obtain ⟨H1, h, hH1⟩ := tset_some _ h
      obtain ⟨H', i2, z, h, hi2, hz, hzs, hb, hnb, hH⟩ := growK_ok h
      obtain rfl : i2 = i := by rw [hi] at hi2; cases hi2; rfl
      refine ⟨_, _, _, h, fun ρ w0 w x tx ty hR hlt hnew hsrc => ?_⟩
      obtain ⟨hf, _⟩ := hfit ρ m w0 w hR
      have hop : B.opn = true ∧ B.es = i2.size := hbo B hB
      by_cases hcl : ρ.cap b - j = l
      · obtain ⟨ρ', w', e1, e2, e3⟩ := grows (P := P) (olds := []) (base := some (ρ.addr b (j * i2.size))) (sLen := 0) (sCap := 0) (ty := ty) ht hi hz hzs hpos hb hnb hH hl (hR.kill hH1)
          hnew (by simp [Builtin.firstCells, loadCells, loadCellsFrom]) hsrc (Nat.zero_add _) (by omega) rfl
        exact ⟨ρ', w', e1, by omega, by simp only [conc]; rw [if_pos hcl]; simpa only [conc] using e2, by simp [AV.lt], e3⟩
      · by_cases hroom : 0 + n ≤ ρ.cap b - j - l
        · obtain ⟨ρ', w', e1, e2, e3, e4, e5⟩ := inplace (P := P) (old := []) (len := 0) (q := j + l) hR hB hop.1 hop.2 hT hH1 hH (by simp) hl (fun x v hx => by simp at hx) (by omega) hnew hs
          refine ⟨ρ', w', e1, by omega, ?_, by simp [AV.lt], e5⟩
          simp only [conc, Nat.zero_mul, e3, e4, Nat.sub_zero]
          rw [if_neg hcl, Nat.sub_sub]
          rw [Nat.sub_sub] at hroom
          have := run_append_room' (ty := ty) ht hi hsrc hroom (base := some (ρ.addr b ((j + l) * i2.size))) (w' := w') (fun a ha => by cases ha; exact e2) (fun ha => by cases ha)
          rwa [Nat.zero_add] at this
        · obtain ⟨ρ', w', e1, e2, e3⟩ := grows (P := P) (olds := []) (base := some (ρ.addr b ((j + l) * i2.size))) (sLen := 0) (sCap := ρ.cap b - j - l) (ty := ty) ht hi hz hzs hpos hb hnb hH hl (hR.kill hH1)
            hnew (by simp [Builtin.firstCells, loadCells, loadCellsFrom]) hsrc (Nat.zero_add _) (by omega) rfl
          exact ⟨ρ', w', e1, by omega, by simp only [conc]; rw [if_neg hcl]; simpa only [conc] using e2, by simp [AV.lt], e3⟩
  | _ => cases h
end
end Go.Proofs.YtnllmelmmcapcaaGreatDoor.Ev
