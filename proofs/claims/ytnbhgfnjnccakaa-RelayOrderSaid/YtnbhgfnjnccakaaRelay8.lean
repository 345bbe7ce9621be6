/- The law RelayOrder: the walk. -/
import Derived.Test.YtnbhgfnjnccakaaRelay4
import Derived.Test.YtnbhgfnjnccakaaAct19
import Derived.Deep.DeepCutAuto
import Derived.Deep.CutBlock
namespace Go.Proofs.Ytnbhgfnjnccakaa
open Go Go.RowKit
set_option linter.unusedVariables false

/-- The bytes that went out at an endpoint. -/
def bytesTo (en : Int) (os : List OutM) : List UInt8 := os.flatMap fun o => if o.en = en then o.data.data.toList else []
theorem bytesTo_append (en : Int) (a c : List OutM) : bytesTo en (a ++ c) = bytesTo en a ++ bytesTo en c := by simp [bytesTo]
theorem bytesTo_take {en : Int} {os : List OutM} {k : Nat} {o : OutM} (h : os[k]? = some o) : bytesTo en (os.take (k + 1)) = bytesTo en (os.take k) ++ (if o.en = en then o.data.data.toList else []) := by
  rw [List.take_add_one, h, bytesTo_append]
  simp [bytesTo]
theorem bytesTo_pre (en : Int) (os : List OutM) (k : Nat) : (bytesTo en (os.take k)).length ≤ (bytesTo en os).length := by
  have h := bytesTo_append en (os.take k) (os.drop k)
  rw [List.take_append_drop] at h
  rw [h, List.length_append]; omega

/-- What holds between two rounds (os: what went out, and was not looked at yet). -/
structure OrdM (w : World) (b size I O M E n : Nat) (l : PLay) (xa : List UInt8) (ra : Nat) (xb : List UInt8) (rb : Nat) (os : List OutM) (i0 i2 o0 o2 : List UInt8) (m0 m2 : Nat) (wr : World) : Prop where
  P : PortAt wr w.heap.size b l (pairP size (openE xa ra) (openE xb rb) os)
  hI : Blk wr I 89 [.string (strB i0), .string (strB i2)]
  hO : Blk wr O 89 [.string (strB o0), .string (strB o2)]
  hM : Blk wr M 73 [.int .i64 m0, .int .i64 m2]
  hE : Blk wr E 73 [.int .i64 0, .int .i64 2]
  nI : I ∉ l.foot
  nO : O ∉ l.foot
  nM : M ∉ l.foot
  nE : E ∉ l.foot
  e0 : i0 = (o2 ++ bytesTo 2 os) ++ xa
  e2 : i2 = (o0 ++ bytesTo 0 os) ++ xb
  l0 : i0.length ≤ 64 * n
  l2 : i2.length ≤ 64 * n
  r0 : (o0 ++ bytesTo 0 os).length + ra ≤ m0
  r2 : (o2 ++ bytesTo 2 os).length + rb ≤ m2
  k0 : m0 ≤ 8 * n
  k2 : m2 ≤ 8 * n
  good : ∀ (j : Nat) (o : OutM), os[j]? = some o → o.kind = 2 ∧ (o.en = 0 ∨ o.en = 2)
  few : os.length ≤ 2
  U : Upd [] w wr

theorem OrdM.up {w : World} {b size I O M E n : Nat} {l : PLay} {xa : List UInt8} {ra : Nat} {xb : List UInt8} {rb : Nat} {os : List OutM} {i0 i2 o0 o2 : List UInt8} {m0 m2 : Nat} {wr w1 : World} (h : OrdM w b size I O M E n l xa ra xb rb os i0 i2 o0 o2 m0 m2 wr) (hu : Upd [] wr w1) :
    OrdM w b size I O M E n l xa ra xb rb os i0 i2 o0 o2 m0 m2 w1 :=
  { h with P := h.P.upd hu (by simp), hI := h.hI.upd hu (by simp), hO := h.hO.upd hu (by simp), hM := h.hM.upd hu (by simp), hE := h.hE.upd hu (by simp), U := h.U.trans_same hu }

def OrdRel (w : World) (b size I O M E n : Nat) (wr : World) : Prop := ∃ l xa ra xb rb i0 i2 o0 o2 m0 m2, OrdM w b size I O M E n l xa ra xb rb [] i0 i2 o0 o2 m0 m2 wr
def OrdMid (w : World) (b size I O M E n : Nat) (wr : World) : Prop := ∃ l xa ra xb rb os i0 i2 o0 o2 m0 m2, OrdM w b size I O M E n l xa ra xb rb os i0 i2 o0 o2 m0 m2 wr

/-- A step, in the law's words. -/
theorem ord_step {xa xb : List UInt8} {ra rb m size : Nat} (hm : 1 ≤ m) : ∃ (xa' xb' : List UInt8) (ra' rb' n : Nat) (os : List OutM),
    (pairP size (openE xa ra) (openE xb rb) []).stepA 0 2 m = (n, false, 0) ∧ (pairP size (openE xa ra) (openE xb rb) []).stepped 0 2 m = pairP size (openE xa' ra') (openE xb' rb') os ∧
    xa = bytesTo 2 os ++ xa' ∧ xb = bytesTo 0 os ++ xb' ∧ (bytesTo 0 os).length + ra' ≤ ra ∧ (bytesTo 2 os).length + rb' ≤ rb ∧ os.length ≤ 2 ∧ ∀ (j : Nat) (o : OutM), os[j]? = some o → o.kind = 2 ∧ (o.en = 0 ∨ o.en = 2) := by
  obtain ⟨a1, a2⟩ := open_step (size := size) (os := []) (xa := xa) (ra := ra) (xb := xb) (rb := rb) m hm
  have p0 : ∀ (en en' : Int) (n : Nat) (ys : List UInt8) (os : List OutM), ys.length = n → bytesTo en' (payO en n ys os) = bytesTo en' os ++ (if en = en' then ys else []) := fun en en' n ys os hy => by
    unfold payO
    by_cases h : n = 0
    · rw [if_pos h]
      have : ys = [] := List.eq_nil_of_length_eq_zero (by omega)
      subst this
      simp
    · rw [if_neg h, bytesTo_append]
      simp [bytesTo, strB]
  have l1 : (xa.take (og xa rb m)).length = og xa rb m := by rw [List.length_take]; unfold og; omega
  have l2 : (xb.take (og xb ra m)).length = og xb ra m := by rw [List.length_take]; unfold og; omega
  have q1 : og xa rb m ≤ rb := by unfold og; omega
  have q2 : og xb ra m ≤ ra := by unfold og; omega
  have b2 : bytesTo 2 (payO 0 (og xb ra m) (xb.take (og xb ra m)) (payO 2 (og xa rb m) (xa.take (og xa rb m)) [])) = xa.take (og xa rb m) := by
    rw [p0 _ _ _ _ _ l2, p0 _ _ _ _ _ l1]; simp [bytesTo]
  have b0 : bytesTo 0 (payO 0 (og xb ra m) (xb.take (og xb ra m)) (payO 2 (og xa rb m) (xa.take (og xa rb m)) [])) = xb.take (og xb ra m) := by
    rw [p0 _ _ _ _ _ l2, p0 _ _ _ _ _ l1]; simp [bytesTo]
  refine ⟨_, _, _, _, _, _, a1, a2, ?_, ?_, ?_, ?_, ?_, ?_⟩
  · rw [b2, List.take_append_drop]
  · rw [b0, List.take_append_drop]
  · rw [b0, l2]; omega
  · rw [b2, l1]; omega
  · unfold payO
    split <;> split <;> simp
  · have s0 : ∀ (en : Int) (n : Nat) (ys : List UInt8) (os : List OutM), (en = 0 ∨ en = 2) → (∀ o ∈ os, o.kind = 2 ∧ (o.en = 0 ∨ o.en = 2)) → ∀ o ∈ payO en n ys os, o.kind = 2 ∧ (o.en = 0 ∨ o.en = 2) := fun en n ys os he h o ho => by
      unfold payO at ho
      split at ho
      · exact h o ho
      · rcases List.mem_append.1 ho with h' | h'
        · exact h o h'
        · simp at h'; subst h'; exact ⟨rfl, he⟩
    intro j o ho
    exact s0 0 _ _ _ (Or.inl rfl) (s0 2 _ _ _ (Or.inr rfl) (fun o h => by cases h)) o (List.mem_of_getElem? ho)

theorem among2c (k : Int) : among k 2 = 0 ∨ among k 2 = 1 := by have := among_range k 2 (by decide); omega
theorem among3c (k : Int) : among k 3 = 0 ∨ among k 3 = 1 ∨ among k 3 = 2 := by have := among_range k 3 (by decide); omega

set_option maxHeartbeats 4000000 in
set_option maxRecDepth 100000 in
theorem relayOrder_law (w : World) (sz : Int) (a1 : Option Addr) (len1 cap1 : Nat) (h1 : ActRow19 w a1 len1) (hl1 : len1 ≤ 9223372036854775807) :
    Calls Try.prog 10 #[.int .i64 sz, .slice a1 len1 cap1] w (Fine w (.bool true)) := by
  obtain ⟨hl96, h1⟩ := h1
  have hr := among_range sz 64 (by decide)
  obtain ⟨size, hsz⟩ : ∃ m : Nat, 1 + among sz 64 = m := ⟨(1 + among sz 64).toNat, by omega⟩
  have wsz : IntKind.i64.wrap (1 + among sz 64) = (size : Int) := by rw [IntWalk.i64_in _ (by omega)]; exact hsz
  have hs1 : 1 ≤ size := by omega
  have hs2 : size ≤ 64 := by omega
  go_enter Try.func10, Try.ntmps10
  go_wp2_with fail
  refine (relay_works _).mono ?_
  rintro e w0 ⟨rfl, hU0⟩
  go_wp2_with fail
  refine (among_any sz 64 _ (by decide) (by decide)).mono ?_
  rintro e w' ⟨rfl, rfl⟩
  go_wp2_with fail
  refine (both_ok size w0 hs1 (by omega)).mono ?_
  rintro e w1 ⟨b, l, c, L, rfl, T⟩
  have hP1 : PortAt w1 w.heap.size b l (pairP size (openE [] 0) (openE [] 0) []) := T.P.mono hU0.size
  have hU1 := hU0.trans_same T.U
  have hb : w.heap.size ≤ w.heap.size := Nat.le_refl _
  clear T hU0 wsz hr hsz
  go_wp2_with fail
  have hq1 := hU1.size
  have kI : Upd [] w1 (w1.alloc (.cells #[.string ⟨#[]⟩, .string ⟨#[]⟩] 89)) := (Upd.refl _ _).alloc _
  have hI0 := blk_new' w1 89 #[.string ⟨#[]⟩, .string ⟨#[]⟩]
  have hU2 := hU1.trans_same kI
  have hP2 := hP1.upd kI (by simp)
  have nI := hP1.fresh (q := w1.heap.size) (Nat.le_refl _)
  have hIl : w1.heap.size < (w1.alloc (.cells #[.string ⟨#[]⟩, .string ⟨#[]⟩] 89)).heap.size := hI0.lt
  have sI : (w1.alloc (.cells #[.string ⟨#[]⟩, .string ⟨#[]⟩] 89)).heap.size = w1.heap.size + 1 := by rw [World.size_alloc]
  generalize w1.alloc (.cells #[.string ⟨#[]⟩, .string ⟨#[]⟩] 89) = w2 at *
  have kO : Upd [] w2 (w2.alloc (.cells #[.string ⟨#[]⟩, .string ⟨#[]⟩] 89)) := (Upd.refl _ _).alloc _
  have hO0 := blk_new' w2 89 #[.string ⟨#[]⟩, .string ⟨#[]⟩]
  have hI1 := hI0.upd kO (by simp)
  have hU3 := hU2.trans_same kO
  have hP3 := hP2.upd kO (by simp)
  have nO := hP2.fresh (q := w2.heap.size) (Nat.le_refl _)
  have sO : (w2.alloc (.cells #[.string ⟨#[]⟩, .string ⟨#[]⟩] 89)).heap.size = w2.heap.size + 1 := by rw [World.size_alloc]
  rw [sI] at hO0 nO sO
  generalize w2.alloc (.cells #[.string ⟨#[]⟩, .string ⟨#[]⟩] 89) = w3 at *
  have kM : Upd [] w3 (w3.alloc (.cells #[.int .i64 0, .int .i64 0] 73)) := (Upd.refl _ _).alloc _
  have hM0 := blk_new' w3 73 #[.int .i64 0, .int .i64 0]
  have hI2 := hI1.upd kM (by simp)
  have hO1 := hO0.upd kM (by simp)
  have hU4 := hU3.trans_same kM
  have hP4 := hP3.upd kM (by simp)
  have nM := hP3.fresh (q := w3.heap.size) (Nat.le_refl _)
  have sM : (w3.alloc (.cells #[.int .i64 0, .int .i64 0] 73)).heap.size = w3.heap.size + 1 := by rw [World.size_alloc]
  rw [sO] at hM0 nM sM
  generalize w3.alloc (.cells #[.int .i64 0, .int .i64 0] 73) = w4 at *
  have kE : Upd [] w4 (w4.alloc (.cells #[.int .i64 0, .int .i64 2] 73)) := (Upd.refl _ _).alloc _
  have hE0 := blk_new' w4 73 #[.int .i64 0, .int .i64 2]
  have hI3 := hI2.upd kE (by simp)
  have hO2 := hO1.upd kE (by simp)
  have hM1 := hM0.upd kE (by simp)
  have hU5 := hU4.trans_same kE
  have hP5 := hP4.upd kE (by simp)
  have nE := hP4.fresh (q := w4.heap.size) (Nat.le_refl _)
  rw [sM] at hE0 nE
  have hst : OrdRel w b size w1.heap.size (w1.heap.size + 1) (w1.heap.size + 1 + 1) (w1.heap.size + 1 + 1 + 1) 0 (w4.alloc (.cells #[.int .i64 0, .int .i64 2] 73)) :=
    ⟨l, [], 0, [], 0, [], [], [], [], 0, 0, ⟨hP5, hI3, hO2, hM1, hE0, nI, nO, nM, nE, rfl, rfl, Nat.zero_le _, Nat.zero_le _, Nat.le_refl _, Nat.le_refl _, Nat.zero_le _, Nat.zero_le _, (fun j o h => by simp at h), Nat.zero_le _, hU5⟩⟩
  clear hP1 hU1 kI hI0 hU2 hP2 nI sI kO hO0 hI1 hU3 hP3 nO sO kM hM0 hI2 hO1 hU4 hP4 nM sM kE hE0 hI3 hO2 hM1 hU5 hP5 nE hIl
  generalize hEe : w1.heap.size + 1 + 1 + 1 = E at *
  generalize hMe : w1.heap.size + 1 + 1 = M at *
  generalize hOe : w1.heap.size + 1 = O at *
  generalize hIe : w1.heap.size = I at *
  have hd : I < O ∧ O < M ∧ M < E ∧ w.heap.size ≤ I := by omega
  clear hEe hMe hOe hIe hq1
  generalize w4.alloc (.cells #[.int .i64 0, .int .i64 2] 73) = w5 at *
  go_loopw [12] (fun iv wr => ∃ i : Nat, i ≤ len1 ∧ iv = .int .i64 i ∧ OrdRel w b size I O M E i wr) (fun iv _ => len1 - (intOf iv).toNat)
  case atStart => exact ⟨0, Nat.zero_le _, rfl, hst⟩
  case round =>
    clear hst
    obtain ⟨i, hi, rfl, l, xa, ra, xb, rb, i0, i2, o0, o2, m0, m2, R⟩ := hrel
    by_cases hlt : i < len1
    · obtain ⟨x, dn, av, bv, mn, kd, en, nn, bs, qa, ql, qc, rfl, hbs, hX⟩ := h1 i hlt
      obtain ⟨x0, x1, x2, x3, x4, x5, x6, x7, x8⟩ := hX.upd R.U
      clear h1 hX
      have kA : Upd [] wr (wr.alloc (.cells #[.int .i64 dn, .int .i64 av, .int .i64 bv, .int .i64 mn, .int .i64 kd, .int .i64 en, .int .i64 nn, .string (strB bs), .slice qa ql qc] 81)) := (Upd.refl _ _).alloc _
      have hA2 := blk_new' wr 81 #[.int .i64 dn, .int .i64 av, .int .i64 bv, .int .i64 mn, .int .i64 kd, .int .i64 en, .int .i64 nn, .string (strB bs), .slice qa ql qc]
      have R2 := R.up kA
      have nA := R.P.fresh (q := wr.heap.size) (Nat.le_refl _)
      have hAI := R.hI.lt
      have hAO := R.hO.lt
      have hAM := R.hM.lt
      have hAE := R.hE.lt
      go_wp2_with fail
      clear x0 x1 x2 x3 x4 x5 x6 x7 x8 R kA
      generalize wr.heap.size = A at *
      generalize wr.alloc (.cells #[.int .i64 dn, .int .i64 av, .int .i64 bv, .int .i64 mn, .int .i64 kd, .int .i64 en, .int .i64 nn, .string (strB bs), .slice qa ql qc] 81) = w6 at *
      have a0' := hA2.cell (i := 0) rfl
      have a1' := hA2.cell (i := 1) rfl
      have a3' := hA2.cell (i := 3) rfl
      have a4' := hA2.cell (i := 4) rfl
      have a5' := hA2.cell (i := 5) rfl
      have a6' := hA2.cell (i := 6) rfl
      have a7' := hA2.cell (i := 7) rfl
      have a8' := hA2.cell (i := 8) rfl
      refine (among_any av 2 _ (by decide) (by decide)).mono ?_
      rintro e w' ⟨rfl, rfl⟩
      go_wp2_with fail
      refine (among_any dn 3 _ (by decide) (by decide)).mono ?_
      rintro e w' ⟨rfl, rfl⟩
      have hka := among2c av
      have hkd := among3c dn
      generalize among av 2 = ak at *
      generalize among dn 3 = ad at *
      go_upto_block 2 with fail
      go_cut [14] (fun s14 wx => OrdMid w b size I O M E (i + 1) wx)
      case first =>
        rcases hkd with rfl | rfl | rfl
        · rcases hka with rfl | rfl
          · as_aux_lemma =>
              have E0 := R2.hE.cell (i := 0) rfl
              have hD : Calls Try.prog 17 #[.pointer (some ⟨b, 0, none⟩), evV 2 0 0 bs none 0 0] w6.drew (EvPost w6.drew w.heap.size b l (putK size xa bs) 0 (pairP size (openE (xa ++ bs.take (putK size xa bs)) ra) (openE xb rb) [])) := ev_data_ok 0 bs hbs none 0 0 (i := 0) (R2.P.upd ((Upd.refl [] w6).drew) (by simp)) rfl rfl rfl
              have hpk : putK size xa bs ≤ bs.length ∧ putK size xa bs ≤ 64 := by unfold putK; omega
              generalize putK size xa bs = n at *
              have R3 := R2.up ((Upd.refl [] w6).drew)
              have hA3 := hA2.upd ((Upd.refl [] w6).drew) (by simp)
              go_wp2_with fail
              have E0d := R3.hE.cell (i := 0) rfl
              have A0d := hA3.cell (i := 7) rfl
              obtain ⟨C, hC⟩ : ∃ C : World → Prop, C = fun w' => w'.cell? ⟨E, 0, none⟩ = some (.int .i64 0) ∧ w'.cell? ⟨A, 7, none⟩ = some (.string (strB bs)) := ⟨_, rfl⟩
              have hCo : ∀ w', C w' → w'.cell? ⟨E, 0, none⟩ = some (.int .i64 0) ∧ w'.cell? ⟨A, 7, none⟩ = some (.string (strB bs)) := fun w' h => by rw [hC] at h; exact h
              have hC0 : C w6.drew := by rw [hC]; exact ⟨E0d, A0d⟩
              have cc1 : ∀ x : { w' // C w' }, x.1.cell? ⟨E, 0, none⟩ = some (.int .i64 0) := fun y => (hCo _ y.2).1
              have cc2 : ∀ x : { w' // C w' }, x.1.cell? ⟨A, 7, none⟩ = some (.string (strB bs)) := fun y => (hCo _ y.2).2
              haveI : Nonempty { w' // C w' } := ⟨⟨_, hC0⟩⟩
              refine wp_region_fxl C [] [8] [3, 6] rfl (by kernel_rfl) hC0 (fun M' => ?_)
              refine wpFx_pure rfl (fun K hK => ?_); go_simp; refine hK _ ?_; clear hK K
              refine wpFx_pure rfl (fun K hK => ?_); go_simp; refine hK _ ?_; clear hK K
              refine wpFx_pure rfl (fun K hK => ?_); go_simp; refine hK _ ?_; clear hK K
              refine wpFx_load rfl rfl (fun K hK => ?_); go_simp; refine hK _ ?_; clear hK K
              refine wpFx_pure rfl (fun K hK => ?_); go_simp; refine hK _ ?_; clear hK K
              refine wpFx_pure rfl (fun K hK => ?_); go_simp; refine hK _ ?_; clear hK K
              refine wpFx_load rfl rfl (fun K hK => ?_); go_simp; refine hK _ ?_; clear hK K
              refine wpFx_pure rfl (fun K hK => ?_); go_simp; refine hK _ ?_; clear hK K
              refine wpFx_et rfl rfl rfl (fun K hK => ?_); go_simp
              refine hD.mono ?_
              rintro e w7 ⟨rfl, hp⟩
              refine hK _ _ ?_; clear hK K
              refine wpFx_pure rfl (fun K hK => ?_); go_simp; refine hK _ ?_; clear hK K
              refine wpFx_pure rfl (fun K hK => ?_); go_simp; refine hK _ ?_; clear hK K
              refine wpFx_pure rfl (fun K hK => ?_); go_simp; refine hK _ ?_; clear hK K
              refine wpFx_pure rfl (fun K hK => ?_); go_simp; refine hK _ ?_; clear hK K
              refine wpFx_pure rfl (fun K hK => ?_); go_simp; refine hK _ ?_; clear hK K
              refine wpFx_nil ?_
              have hU7 := R3.P.below hp.2 R3.U hb
              have hI7 := R3.hI.upd hp.2 R3.nI
              have hO7 := R3.hO.upd hp.2 R3.nO
              have hM7 := R3.hM.upd hp.2 R3.nM
              have hE7 := R3.hE.upd hp.2 R3.nE
              have hA7 := hA3.upd hp.2 nA
              have a7 := hA7.cell (i := 7) rfl
              have e1 : (strB bs).extract 0 n = strB (bs.take n) := strB_extract bs n
              have e2 := strB_append i0 (bs.take n)
              have e3 : (strB bs).size = bs.length := rfl
              have hil := R2.l0
              have s1 : ¬ 9223372036854775807 < (strB i0).size + (strB (bs.take n)).size := by
                show ¬ 9223372036854775807 < i0.length + (bs.take n).length
                rw [List.length_take]; omega
              have y0 := hI7.cell (i := 0) rfl
              have yf := hI7.frozen 0
              clear hD hA2 hA3 a1' a3' a4' a0' a5' a6' a8' a7'
              go_wp2_with fail
              refine wp_region_tail 10 (by kernel_rfl) (by kernel_rfl) ?_
              simp only [List.take_succ_cons, List.take_zero, List.drop_succ_cons, List.drop_zero]
              repeat still_step
              refine wpStill_nil ?_
              go_wp2_with fail
              go_meet
              case rel =>
                have hs : Upd [I] w7 (w7.drew.setCell ⟨I, 0, none⟩ (.string (strB (i0 ++ bs.take n)))) := ((Upd.refl [I] w7).drew).setCell (Or.inl (by simp)) _
                have q0 := R2.e0
                have q2 := R2.e2
                have z0 := R2.l0
                have z2 := R2.l2
                exact ⟨l, _, _, _, _, [], _, _, o0, o2, m0, m2, { P := hp.1.upd hs (by simp; exact R2.nI), hI := (hI7.drew.set 0 _).eq rfl, hO := hO7.upd hs (by simp; omega), hM := hM7.upd hs (by simp; omega), hE := hE7.upd hs (by simp; omega), nI := R2.nI, nO := R2.nO, nM := R2.nM, nE := R2.nE, e0 := by rw [q0, List.append_assoc], e2 := by exact q2, l0 := by rw [List.length_append, List.length_take]; omega, l2 := by omega, r0 := R2.r0, r2 := R2.r2, k0 := by have := R2.k0; omega, k2 := by have := R2.k2; omega, good := R2.good, few := R2.few, U := hU7.trans (fun q hq => Or.inr (by simp at hq; omega)) hs }⟩
          · as_aux_lemma =>
              have E0 := R2.hE.cell (i := 1) rfl
              have hD : Calls Try.prog 17 #[.pointer (some ⟨b, 0, none⟩), evV 2 2 0 bs none 0 0] w6.drew (EvPost w6.drew w.heap.size b l (putK size xb bs) 0 (pairP size (openE xa ra) (openE (xb ++ bs.take (putK size xb bs)) rb) [])) := ev_data_ok 0 bs hbs none 0 0 (i := 2) (R2.P.upd ((Upd.refl [] w6).drew) (by simp)) rfl rfl rfl
              have hpk : putK size xb bs ≤ bs.length ∧ putK size xb bs ≤ 64 := by unfold putK; omega
              generalize putK size xb bs = n at *
              have R3 := R2.up ((Upd.refl [] w6).drew)
              have hA3 := hA2.upd ((Upd.refl [] w6).drew) (by simp)
              go_wp2_with fail
              have E0d := R3.hE.cell (i := 1) rfl
              have A0d := hA3.cell (i := 7) rfl
              obtain ⟨C, hC⟩ : ∃ C : World → Prop, C = fun w' => w'.cell? ⟨E, 1, none⟩ = some (.int .i64 2) ∧ w'.cell? ⟨A, 7, none⟩ = some (.string (strB bs)) := ⟨_, rfl⟩
              have hCo : ∀ w', C w' → w'.cell? ⟨E, 1, none⟩ = some (.int .i64 2) ∧ w'.cell? ⟨A, 7, none⟩ = some (.string (strB bs)) := fun w' h => by rw [hC] at h; exact h
              have hC0 : C w6.drew := by rw [hC]; exact ⟨E0d, A0d⟩
              have cc1 : ∀ x : { w' // C w' }, x.1.cell? ⟨E, 1, none⟩ = some (.int .i64 2) := fun y => (hCo _ y.2).1
              have cc2 : ∀ x : { w' // C w' }, x.1.cell? ⟨A, 7, none⟩ = some (.string (strB bs)) := fun y => (hCo _ y.2).2
              haveI : Nonempty { w' // C w' } := ⟨⟨_, hC0⟩⟩
              refine wp_region_fxl C [] [8] [3, 6] rfl (by kernel_rfl) hC0 (fun M' => ?_)
              refine wpFx_pure rfl (fun K hK => ?_); go_simp; refine hK _ ?_; clear hK K
              refine wpFx_pure rfl (fun K hK => ?_); go_simp; refine hK _ ?_; clear hK K
              refine wpFx_pure rfl (fun K hK => ?_); go_simp; refine hK _ ?_; clear hK K
              refine wpFx_load rfl rfl (fun K hK => ?_); go_simp; refine hK _ ?_; clear hK K
              refine wpFx_pure rfl (fun K hK => ?_); go_simp; refine hK _ ?_; clear hK K
              refine wpFx_pure rfl (fun K hK => ?_); go_simp; refine hK _ ?_; clear hK K
              refine wpFx_load rfl rfl (fun K hK => ?_); go_simp; refine hK _ ?_; clear hK K
              refine wpFx_pure rfl (fun K hK => ?_); go_simp; refine hK _ ?_; clear hK K
              refine wpFx_et rfl rfl rfl (fun K hK => ?_); go_simp
              refine hD.mono ?_
              rintro e w7 ⟨rfl, hp⟩
              refine hK _ _ ?_; clear hK K
              refine wpFx_pure rfl (fun K hK => ?_); go_simp; refine hK _ ?_; clear hK K
              refine wpFx_pure rfl (fun K hK => ?_); go_simp; refine hK _ ?_; clear hK K
              refine wpFx_pure rfl (fun K hK => ?_); go_simp; refine hK _ ?_; clear hK K
              refine wpFx_pure rfl (fun K hK => ?_); go_simp; refine hK _ ?_; clear hK K
              refine wpFx_pure rfl (fun K hK => ?_); go_simp; refine hK _ ?_; clear hK K
              refine wpFx_nil ?_
              have hU7 := R3.P.below hp.2 R3.U hb
              have hI7 := R3.hI.upd hp.2 R3.nI
              have hO7 := R3.hO.upd hp.2 R3.nO
              have hM7 := R3.hM.upd hp.2 R3.nM
              have hE7 := R3.hE.upd hp.2 R3.nE
              have hA7 := hA3.upd hp.2 nA
              have a7 := hA7.cell (i := 7) rfl
              have e1 : (strB bs).extract 0 n = strB (bs.take n) := strB_extract bs n
              have e2 := strB_append i2 (bs.take n)
              have e3 : (strB bs).size = bs.length := rfl
              have hil := R2.l2
              have s1 : ¬ 9223372036854775807 < (strB i2).size + (strB (bs.take n)).size := by
                show ¬ 9223372036854775807 < i2.length + (bs.take n).length
                rw [List.length_take]; omega
              have y0 := hI7.cell (i := 1) rfl
              have yf := hI7.frozen 1
              clear hD hA2 hA3 a1' a3' a4' a0' a5' a6' a8' a7'
              go_wp2_with fail
              refine wp_region_tail 10 (by kernel_rfl) (by kernel_rfl) ?_
              simp only [List.take_succ_cons, List.take_zero, List.drop_succ_cons, List.drop_zero]
              repeat still_step
              refine wpStill_nil ?_
              go_wp2_with fail
              go_meet
              case rel =>
                have hs : Upd [I] w7 (w7.drew.setCell ⟨I, 1, none⟩ (.string (strB (i2 ++ bs.take n)))) := ((Upd.refl [I] w7).drew).setCell (Or.inl (by simp)) _
                have q0 := R2.e0
                have q2 := R2.e2
                have z0 := R2.l0
                have z2 := R2.l2
                exact ⟨l, _, _, _, _, [], _, _, o0, o2, m0, m2, { P := hp.1.upd hs (by simp; exact R2.nI), hI := (hI7.drew.set 1 _).eq rfl, hO := hO7.upd hs (by simp; omega), hM := hM7.upd hs (by simp; omega), hE := hE7.upd hs (by simp; omega), nI := R2.nI, nO := R2.nO, nM := R2.nM, nE := R2.nE, e0 := by exact q0, e2 := by rw [q2, List.append_assoc], l0 := by omega, l2 := by rw [List.length_append, List.length_take]; omega, r0 := R2.r0, r2 := R2.r2, k0 := by have := R2.k0; omega, k2 := by have := R2.k2; omega, good := R2.good, few := R2.few, U := hU7.trans (fun q hq => Or.inr (by simp at hq; omega)) hs }⟩
        · rcases hka with rfl | rfl
          · as_aux_lemma =>
              have hrn := among_range nn 9 (by decide)
              obtain ⟨r, hrr⟩ : ∃ r : Nat, among nn 9 = r := ⟨(among nn 9).toNat, by omega⟩
              have hAm := among_any nn 9 w6 (by decide) (by decide)
              rw [hrr] at hAm
              have hD : Calls Try.prog 17 #[.pointer (some ⟨b, 0, none⟩), evV 5 0 r [] none 0 0] w6 (EvPost w6 w.heap.size b l 0 0 (pairP size (openE xa (ra + min r (1099511627776 - ra))) (openE xb rb) [])) := ev_room_ok r [] none 0 0 (i := 0) R2.P rfl rfl
              have E0 := R2.hE.cell (i := 0) rfl
              go_wp2_with fail
              refine hAm.mono ?_
              rintro e w' ⟨rfl, rfl⟩
              go_wp2_with fail
              refine hD.mono ?_
              rintro e w7 ⟨rfl, hp⟩
              have hU7 := R2.P.below hp.2 R2.U hb
              have hI7 := R2.hI.upd hp.2 R2.nI
              have hO7 := R2.hO.upd hp.2 R2.nO
              have hM7 := R2.hM.upd hp.2 R2.nM
              have hE7 := R2.hE.upd hp.2 R2.nE
              have hmm := R2.k0
              have ew : IntKind.i64.wrap ((m0 : Int) + (r : Int)) = ((m0 + r : Nat) : Int) := by rw [IntWalk.i64_in _ (by omega)]; omega
              have y0 := hM7.cell (i := 0) rfl
              have yf := hM7.frozen 0
              clear hD hAm
              go_wp2_with fail
              go_meet
              case rel =>
                have hs : Upd [M] w7 (w7.setCell ⟨M, 0, none⟩ (.int .i64 ((m0 + r : Nat) : Int))) := (Upd.refl [M] w7).setCell (Or.inl (by simp)) _
                have q0 := R2.r0
                have q2 := R2.r2
                exact ⟨l, _, _, _, _, [], _, _, o0, o2, _, _, { P := hp.1.upd hs (by simp; exact R2.nM), hI := hI7.upd hs (by simp; omega), hO := hO7.upd hs (by simp; omega), hM := (hM7.set 0 _).eq rfl, hE := hE7.upd hs (by simp; omega), nI := R2.nI, nO := R2.nO, nM := R2.nM, nE := R2.nE, e0 := R2.e0, e2 := R2.e2, l0 := by have := R2.l0; omega, l2 := by have := R2.l2; omega, r0 := by omega, r2 := by exact q2, k0 := by have := R2.k0; omega, k2 := by have := R2.k2; omega, good := R2.good, few := R2.few, U := hU7.trans (fun q hq => Or.inr (by simp at hq; omega)) hs }⟩
          · as_aux_lemma =>
              have hrn := among_range nn 9 (by decide)
              obtain ⟨r, hrr⟩ : ∃ r : Nat, among nn 9 = r := ⟨(among nn 9).toNat, by omega⟩
              have hAm := among_any nn 9 w6 (by decide) (by decide)
              rw [hrr] at hAm
              have hD : Calls Try.prog 17 #[.pointer (some ⟨b, 0, none⟩), evV 5 2 r [] none 0 0] w6 (EvPost w6 w.heap.size b l 0 0 (pairP size (openE xa ra) (openE xb (rb + min r (1099511627776 - rb))) [])) := ev_room_ok r [] none 0 0 (i := 2) R2.P rfl rfl
              have E0 := R2.hE.cell (i := 1) rfl
              go_wp2_with fail
              refine hAm.mono ?_
              rintro e w' ⟨rfl, rfl⟩
              go_wp2_with fail
              refine hD.mono ?_
              rintro e w7 ⟨rfl, hp⟩
              have hU7 := R2.P.below hp.2 R2.U hb
              have hI7 := R2.hI.upd hp.2 R2.nI
              have hO7 := R2.hO.upd hp.2 R2.nO
              have hM7 := R2.hM.upd hp.2 R2.nM
              have hE7 := R2.hE.upd hp.2 R2.nE
              have hmm := R2.k2
              have ew : IntKind.i64.wrap ((m2 : Int) + (r : Int)) = ((m2 + r : Nat) : Int) := by rw [IntWalk.i64_in _ (by omega)]; omega
              have y0 := hM7.cell (i := 1) rfl
              have yf := hM7.frozen 1
              clear hD hAm
              go_wp2_with fail
              go_meet
              case rel =>
                have hs : Upd [M] w7 (w7.setCell ⟨M, 1, none⟩ (.int .i64 ((m2 + r : Nat) : Int))) := (Upd.refl [M] w7).setCell (Or.inl (by simp)) _
                have q0 := R2.r0
                have q2 := R2.r2
                exact ⟨l, _, _, _, _, [], _, _, o0, o2, _, _, { P := hp.1.upd hs (by simp; exact R2.nM), hI := hI7.upd hs (by simp; omega), hO := hO7.upd hs (by simp; omega), hM := (hM7.set 1 _).eq rfl, hE := hE7.upd hs (by simp; omega), nI := R2.nI, nO := R2.nO, nM := R2.nM, nE := R2.nE, e0 := R2.e0, e2 := R2.e2, l0 := by have := R2.l0; omega, l2 := by have := R2.l2; omega, r0 := by exact q0, r2 := by omega, k0 := by have := R2.k0; omega, k2 := by have := R2.k2; omega, good := R2.good, few := R2.few, U := hU7.trans (fun q hq => Or.inr (by simp at hq; omega)) hs }⟩
        · as_aux_lemma =>
            have hrn := among_range mn 9 (by decide)
            obtain ⟨m, hmm⟩ : ∃ m : Nat, 1 + among mn 9 = m := ⟨(1 + among mn 9).toNat, by omega⟩
            have wm : IntKind.i64.wrap (1 + among mn 9) = (m : Int) := by rw [IntWalk.i64_in _ (by omega)]; exact hmm
            have hAm := among_any mn 9 w6 (by decide) (by decide)
            have hD := rl_step 0 2 m R2.P (by show 0 < 100000000000; decide)
            obtain ⟨xa', xb', ra', rb', n, os, q1, q2, q3, q4, q5, q6, q7, q8⟩ := ord_step (xa := xa) (xb := xb) (ra := ra) (rb := rb) (m := m) (size := size) (by omega)
            rw [q1, q2] at hD
            clear q1 q2
            go_wp2_with fail
            refine hAm.mono ?_
            rintro e w' ⟨rfl, rfl⟩
            go_wp2_with fail
            refine hD.mono ?_
            rintro e w7 ⟨rfl, l7, h7, hu7, hW7⟩
            have hU7 := R2.P.below hu7 R2.U hb
            clear hD hAm
            go_wp2_with fail
            go_meet
            case rel =>
              have z0 := R2.e0
              have z2 := R2.e2
              have r0 := R2.r0
              have r2 := R2.r2
              simp only [bytesTo, List.flatMap_nil, List.append_nil] at z0 z2 r0 r2
              exact ⟨l7, xa', ra', xb', rb', os, i0, i2, o0, o2, m0, m2, { P := h7, hI := R2.hI.upd hu7 R2.nI, hO := R2.hO.upd hu7 R2.nO, hM := R2.hM.upd hu7 R2.nM, hE := R2.hE.upd hu7 R2.nE, nI := within_keep hW7 R2.nI R2.hI.lt, nO := within_keep hW7 R2.nO R2.hO.lt, nM := within_keep hW7 R2.nM R2.hM.lt, nE := within_keep hW7 R2.nE R2.hE.lt, e0 := by rw [z0, q3, List.append_assoc], e2 := by rw [z2, q4, List.append_assoc], l0 := by have := R2.l0; omega, l2 := by have := R2.l2; omega, r0 := by rw [List.length_append]; omega, r2 := by rw [List.length_append]; omega, k0 := by have := R2.k0; omega, k2 := by have := R2.k2; omega, good := q8, few := q7, U := hU7 }⟩
      case rest =>
        as_aux_lemma =>
          clear R2 hA2 nA a0' a1' a3' a4' a5' a6' a7' a8' hAI hAO hAM hAE
          obtain ⟨l, xa, ra, xb, rb, os, i0, i2, o0, o2, m0, m2, R⟩ := hcut
          have hOt := pt_outs R.P
          have hfew := R.few
          go_wp2_with fail
          refine hOt.mono ?_
          rintro e w10 ⟨ov, rfl, hov, hot, l10, h10, hu10, hW10⟩
          have hov : Own w10 w.heap.size 51 10 ov os.length (outsC os) := hov
          have h10 : PortAt w10 w.heap.size b l10 (pairP size (openE xa ra) (openE xb rb) []) := h10
          have hU10 := R.P.below hu10 R.U hb
          have hI10 := R.hI.upd hu10 R.nI
          have hO10 := R.hO.upd hu10 R.nO
          have hM10 := R.hM.upd hu10 R.nM
          have hE10 := R.hE.upd hu10 R.nE
          have nI10 := within_keep hW10 R.nI R.hI.lt
          have nO10 := within_keep hW10 R.nO R.hO.lt
          have nM10 := within_keep hW10 R.nM R.hM.lt
          have nE10 := within_keep hW10 R.nE R.hE.lt
          have hvO : ∀ q, ov.ownBlock = some q → q ∉ [O] := fun q hq hq' => by
            have := (hot q hq).2.2
            simp at hq'
            subst hq'
            exact R.nO this
          have hxl : xa.length ≤ 64 ∧ xb.length ≤ 64 := by
            have h1 := ((R.P.rings 0 (openE xa ra) rfl).fit).1
            have h2 := ((R.P.rings 2 (openE xb rb) rfl).fit).1
            have h1 : xa.length ≤ size := h1
            have h2 : xb.length ≤ size := h2
            omega
          obtain ⟨ao, co, rfl⟩ := hov.shape
          clear hOt hot hu10 hW10
          go_wp2_with fail
          go_loopw [22] (fun jv wx => ∃ j : Nat, j ≤ os.length ∧ jv = .int .i64 j ∧ (∃ p0 p2 : List UInt8, p0 = o0 ++ bytesTo 0 (os.take j) ∧ p2 = o2 ++ bytesTo 2 (os.take j) ∧ Blk wx O 89 [.string (strB p0), .string (strB p2)]) ∧ Upd [O] w10 wx) (fun jv _ => os.length - (intOf jv).toNat)
          case atStart => exact ⟨0, Nat.zero_le _, rfl, ⟨o0, o2, by simp [bytesTo], by simp [bytesTo], hO10⟩, Upd.refl _ _⟩
          case round =>
            obtain ⟨j, hj, rfl, ⟨p0, p2, hp0, hp2, hO⟩, hUx⟩ := hrel
            by_cases hjl : j < os.length
            · have hov' := hov.upd hUx hvO
              obtain ⟨g1, o1, c1', pre1, rest1, hv1, _, _, _, _, hnc, hcm⟩ := hov'.blk (by intro h; injection h with _ h; omega)
              cases hv1
              clear hnc hcm
              obtain ⟨o, hp⟩ : ∃ o, os[j]? = some o := ⟨os[j], List.getElem?_eq_getElem (by omega)⟩
              have bt0 := bytesTo_take (en := 0) hp
              have bt2 := bytesTo_take (en := 2) hp
              have hgood := R.good j o hp
              obtain ⟨okd, oen, odata, odest⟩ := o
              obtain ⟨db, rfl⟩ : ∃ db, odata = strB db := ⟨odata.data.toList, rfl⟩
              have x1 := hov'.cell rfl (outsC_at hp (j := 1) (u := .int .i64 okd) rfl)
              have x2 := hov'.cell rfl (outsC_at hp (j := 2) (u := .int .i64 oen) rfl)
              have x3 := hov'.cell rfl (outsC_at hp (j := 3) (u := .string (strB db)) rfl)
              rw [← Nat.add_assoc] at x1 x2 x3
              have e1 : (⟨g1, o1, none⟩ : Addr).add (j * 10) = ⟨g1, o1 + j * 10, none⟩ := addr_add _ _ _
              have y0 := hO.cell (i := 0) rfl
              have y1 := hO.cell (i := 1) rfl
              have yf0 := hO.frozen 0
              have yf1 := hO.frozen 1
              simp only at hgood bt0 bt2
              have hdb : (strB db).data.toList = db := by simp [strB]
              rw [hdb] at bt0 bt2
              clear hdb
              obtain ⟨rfl, rfl | rfl⟩ := hgood
              · rw [if_pos rfl] at bt0
                rw [if_neg (by decide), List.append_nil] at bt2
                have ha0 : p0 ++ db = o0 ++ bytesTo 0 (os.take (j + 1)) := by rw [bt0, hp0, List.append_assoc]
                have ha2 : True := trivial
                have h0n : p0 ++ db = o0 ++ bytesTo 0 (os.take (j + 1)) := ha0
                have h2n : p2 = o2 ++ bytesTo 2 (os.take (j + 1)) := by rw [bt2, hp2]
                clear bt0 bt2
                have hdl : (p0 ++ db).length ≤ 8 * (i + 1) := by
                  rw [ha0, List.length_append]
                  have := bytesTo_pre 0 os (j + 1)
                  have hh := R.r0
                  have := R.k0
                  rw [List.length_append] at hh
                  omega
                have s1 : ¬ 9223372036854775807 < (strB p0).size + (strB db).size := by
                  show ¬ 9223372036854775807 < p0.length + db.length
                  rw [List.length_append] at hdl; omega
                have e2 := strB_append p0 db
                have H0 := Lib.hid h0n
                have H2 := Lib.hid h2n
                clear h0n h2n hp0 hp2 ha0 ha2 hp hov'
                have xd2 : wr.drew.cell? ⟨g1, o1 + j * 10 + 2, none⟩ = some (.int .i64 0) := x2
                have xd3 : wr.drew.cell? ⟨g1, o1 + j * 10 + 3, none⟩ = some (.string (strB db)) := x3
                have yd : wr.drew.cell? ⟨O, 0, none⟩ = some (.string (strB p0)) := y0
                have yfd : wr.drew.frozen? ⟨O, 0, none⟩ = false := yf0
                obtain ⟨C, hC⟩ : ∃ C : World → Prop, C = fun w' => w'.cell? ⟨g1, o1 + j * 10 + 2, none⟩ = some (.int .i64 0) ∧ w'.cell? ⟨g1, o1 + j * 10 + 3, none⟩ = some (.string (strB db)) ∧ w'.cell? ⟨O, 0, none⟩ = some (.string (strB p0)) := ⟨_, rfl⟩
                have hCo : ∀ w', C w' → w'.cell? ⟨g1, o1 + j * 10 + 2, none⟩ = some (.int .i64 0) ∧ w'.cell? ⟨g1, o1 + j * 10 + 3, none⟩ = some (.string (strB db)) ∧ w'.cell? ⟨O, 0, none⟩ = some (.string (strB p0)) := fun w' h => by rw [hC] at h; exact h
                have hC0 : C wr.drew := by rw [hC]; exact ⟨xd2, xd3, yd⟩
                have cc1 : ∀ x : { w' // C w' }, x.1.cell? ⟨g1, o1 + j * 10 + 2, none⟩ = some (.int .i64 0) := fun y => (hCo _ y.2).1
                have cc2 : ∀ x : { w' // C w' }, x.1.cell? ⟨g1, o1 + j * 10 + 3, none⟩ = some (.string (strB db)) := fun y => (hCo _ y.2).2.1
                have cc3 : ∀ x : { w' // C w' }, x.1.cell? ⟨O, 0, none⟩ = some (.string (strB p0)) := fun y => (hCo _ y.2).2.2
                haveI : Nonempty { w' // C w' } := ⟨⟨_, hC0⟩⟩
                have wz : IntKind.i64.wrap 0 = 0 := IntWalk.i64_in _ (by decide)
                go_wp2_with fail
                refine wp_region_fxl C [] [15] [4, 7, 12] rfl (by kernel_rfl) hC0 (fun M' => ?_)
                refine wpFx_pure rfl (fun K hK => ?_); go_simp; refine hK _ ?_; clear hK K
                refine wpFx_pure rfl (fun K hK => ?_); go_simp; refine hK _ ?_; clear hK K
                refine wpFx_pure rfl (fun K hK => ?_); go_simp; refine hK _ ?_; clear hK K
                refine wpFx_pure rfl (fun K hK => ?_); go_simp; refine hK _ ?_; clear hK K
                refine wpFx_load rfl rfl (fun K hK => ?_); go_simp; refine hK _ ?_; clear hK K
                refine wpFx_pure rfl (fun K hK => ?_); go_simp; refine hK _ ?_; clear hK K
                refine wpFx_pure rfl (fun K hK => ?_); go_simp; refine hK _ ?_; clear hK K
                refine wpFx_load rfl rfl (fun K hK => ?_); go_simp; refine hK _ ?_; clear hK K
                refine wpFx_pure rfl (fun K hK => ?_); go_simp; refine hK _ ?_; clear hK K
                refine wpFx_pure rfl (fun K hK => ?_); go_simp; refine hK _ ?_; clear hK K
                refine wpFx_pure rfl (fun K hK => ?_); go_simp; refine hK _ ?_; clear hK K
                refine wpFx_pure rfl (fun K hK => ?_); go_simp; refine hK _ ?_; clear hK K
                refine wpFx_load rfl rfl (fun K hK => ?_); go_simp; refine hK _ ?_; clear hK K
                refine wpFx_pure rfl (fun K hK => ?_); go_simp; refine hK _ ?_; clear hK K
                refine wpFx_pure rfl (fun K hK => ?_); go_simp; refine hK _ ?_; clear hK K
                refine wpFx_et rfl rfl rfl (fun K hK => ?_); go_simp
                refine hK _ _ ?_; clear hK K
                refine wpFx_nil ?_
                clear cc1 cc2 cc3 hC0 hCo hC xd2 xd3 yd yfd x1 x2 x3 y0 y1 yf0 yf1
                go_wp2_with fail
                go_roundw
                case rel => exact ⟨j + 1, hjl, by go_num, ⟨_, _, H0.out, H2.out, (hO.drew.set 0 _).eq rfl⟩, (hUx.drew).setCell (Or.inl (by simp)) _⟩
                case measure => simp [intOf]; omega
              · rw [if_pos rfl] at bt2
                rw [if_neg (by decide), List.append_nil] at bt0
                have ha2 : p2 ++ db = o2 ++ bytesTo 2 (os.take (j + 1)) := by rw [bt2, hp2, List.append_assoc]
                have ha0 : True := trivial
                have h2n : p2 ++ db = o2 ++ bytesTo 2 (os.take (j + 1)) := ha2
                have h0n : p0 = o0 ++ bytesTo 0 (os.take (j + 1)) := by rw [bt0, hp0]
                clear bt0 bt2
                have hdl : (p2 ++ db).length ≤ 8 * (i + 1) := by
                  rw [ha2, List.length_append]
                  have := bytesTo_pre 2 os (j + 1)
                  have hh := R.r2
                  have := R.k2
                  rw [List.length_append] at hh
                  omega
                have s1 : ¬ 9223372036854775807 < (strB p2).size + (strB db).size := by
                  show ¬ 9223372036854775807 < p2.length + db.length
                  rw [List.length_append] at hdl; omega
                have e2 := strB_append p2 db
                have H0 := Lib.hid h0n
                have H2 := Lib.hid h2n
                clear h0n h2n hp0 hp2 ha0 ha2 hp hov'
                have xd2 : wr.drew.cell? ⟨g1, o1 + j * 10 + 2, none⟩ = some (.int .i64 2) := x2
                have xd3 : wr.drew.cell? ⟨g1, o1 + j * 10 + 3, none⟩ = some (.string (strB db)) := x3
                have yd : wr.drew.cell? ⟨O, 1, none⟩ = some (.string (strB p2)) := y1
                have yfd : wr.drew.frozen? ⟨O, 1, none⟩ = false := yf1
                obtain ⟨C, hC⟩ : ∃ C : World → Prop, C = fun w' => w'.cell? ⟨g1, o1 + j * 10 + 2, none⟩ = some (.int .i64 2) ∧ w'.cell? ⟨g1, o1 + j * 10 + 3, none⟩ = some (.string (strB db)) ∧ w'.cell? ⟨O, 1, none⟩ = some (.string (strB p2)) := ⟨_, rfl⟩
                have hCo : ∀ w', C w' → w'.cell? ⟨g1, o1 + j * 10 + 2, none⟩ = some (.int .i64 2) ∧ w'.cell? ⟨g1, o1 + j * 10 + 3, none⟩ = some (.string (strB db)) ∧ w'.cell? ⟨O, 1, none⟩ = some (.string (strB p2)) := fun w' h => by rw [hC] at h; exact h
                have hC0 : C wr.drew := by rw [hC]; exact ⟨xd2, xd3, yd⟩
                have cc1 : ∀ x : { w' // C w' }, x.1.cell? ⟨g1, o1 + j * 10 + 2, none⟩ = some (.int .i64 2) := fun y => (hCo _ y.2).1
                have cc2 : ∀ x : { w' // C w' }, x.1.cell? ⟨g1, o1 + j * 10 + 3, none⟩ = some (.string (strB db)) := fun y => (hCo _ y.2).2.1
                have cc3 : ∀ x : { w' // C w' }, x.1.cell? ⟨O, 1, none⟩ = some (.string (strB p2)) := fun y => (hCo _ y.2).2.2
                haveI : Nonempty { w' // C w' } := ⟨⟨_, hC0⟩⟩
                have wz : IntKind.i64.wrap 1 = 1 := IntWalk.i64_in _ (by decide)
                go_wp2_with fail
                refine wp_region_fxl C [] [15] [4, 7, 12] rfl (by kernel_rfl) hC0 (fun M' => ?_)
                refine wpFx_pure rfl (fun K hK => ?_); go_simp; refine hK _ ?_; clear hK K
                refine wpFx_pure rfl (fun K hK => ?_); go_simp; refine hK _ ?_; clear hK K
                refine wpFx_pure rfl (fun K hK => ?_); go_simp; refine hK _ ?_; clear hK K
                refine wpFx_pure rfl (fun K hK => ?_); go_simp; refine hK _ ?_; clear hK K
                refine wpFx_load rfl rfl (fun K hK => ?_); go_simp; refine hK _ ?_; clear hK K
                refine wpFx_pure rfl (fun K hK => ?_); go_simp; refine hK _ ?_; clear hK K
                refine wpFx_pure rfl (fun K hK => ?_); go_simp; refine hK _ ?_; clear hK K
                refine wpFx_load rfl rfl (fun K hK => ?_); go_simp; refine hK _ ?_; clear hK K
                refine wpFx_pure rfl (fun K hK => ?_); go_simp; refine hK _ ?_; clear hK K
                refine wpFx_pure rfl (fun K hK => ?_); go_simp; refine hK _ ?_; clear hK K
                refine wpFx_pure rfl (fun K hK => ?_); go_simp; refine hK _ ?_; clear hK K
                refine wpFx_pure rfl (fun K hK => ?_); go_simp; refine hK _ ?_; clear hK K
                refine wpFx_load rfl rfl (fun K hK => ?_); go_simp; refine hK _ ?_; clear hK K
                refine wpFx_pure rfl (fun K hK => ?_); go_simp; refine hK _ ?_; clear hK K
                refine wpFx_pure rfl (fun K hK => ?_); go_simp; refine hK _ ?_; clear hK K
                refine wpFx_et rfl rfl rfl (fun K hK => ?_); go_simp
                refine hK _ _ ?_; clear hK K
                refine wpFx_nil ?_
                clear cc1 cc2 cc3 hC0 hCo hC xd2 xd3 yd yfd x1 x2 x3 y0 y1 yf0 yf1
                go_wp2_with fail
                go_roundw
                case rel => exact ⟨j + 1, hjl, by go_num, ⟨_, _, H0.out, H2.out, (hO.drew.set 1 _).eq rfl⟩, (hUx.drew).setCell (Or.inl (by simp)) _⟩
                case measure => simp [intOf]; omega
            · obtain rfl : j = os.length := by omega
              rw [List.take_length] at hp0 hp2
              have hPx := h10.upd hUx (fun q hq hq' => by simp at hq; subst hq; exact nO10 hq')
              have hIx := hI10.upd hUx (by simp; omega)
              have hMx := hM10.upd hUx (by simp; omega)
              have hEx := hE10.upd hUx (by simp; omega)
              have hUw := hU10.trans (fun q hq => Or.inr (by simp at hq; omega)) hUx
              have hi0 := R.e0
              have hi2 := R.e2
              rw [← hp2] at hi0
              rw [← hp0] at hi2
              have hr0 := R.r0
              have hr2 := R.r2
              rw [← hp0] at hr0
              rw [← hp2] at hr2
              have HP0 := Lib.hid hp0
              have HP2 := Lib.hid hp2
              clear hp0 hp2 h10 hUx hI10 hO10 hM10 hE10 hU10 hov hvO
              go_wp2_with fail
              go_loopw [23] (fun kv wy => ∃ k : Nat, k ≤ 2 ∧ kv = .int .i64 k ∧ Upd [] wr wy) (fun kv _ => 2 - (intOf kv).toNat)
              case atStart => exact ⟨0, Nat.zero_le _, rfl, Upd.refl _ _⟩
              case round =>
                obtain ⟨k, hk, rfl, hUy⟩ := hrel
                have hPy := hPx.upd hUy (by simp)
                have hIy := hIx.upd hUy (by simp)
                have hOy := hO.upd hUy (by simp)
                have hMy := hMx.upd hUy (by simp)
                have hEy := hEx.upd hUy (by simp)
                rcases (show k = 0 ∨ k = 1 ∨ k = 2 by omega) with rfl | rfl | rfl
                · as_aux_lemma =>
                    have c1 := hIy.cell (i := 0) rfl
                    have c2 := hOy.cell (i := 1) rfl
                    have c3 := hEy.cell (i := 0) rfl
                    have c4 := hOy.cell (i := 0) rfl
                    have c5 := hMy.cell (i := 0) rfl
                    have hPd := hPy.upd ((Upd.refl [] wr).drew) (by simp)
                    have hPk : Calls Try.prog 20 #[.pointer (some ⟨b, 0, none⟩), .int .i64 0, .int .i64 1000] wr.drew fun e w' => ∃ v, e = .returned v ∧ GivenB wr.drew w' v xa ∧ Upd [] wr.drew w' := by
                      have := pt_peek 0 1000 hPd
                      have e : (pairP size (openE xa ra) (openE xb rb) []).takeB 0 1000 = xa := List.take_of_length_le (by show xa.length ≤ 1000; omega)
                      rw [e] at this
                      exact this
                    have e2 := strB_append p2 xa
                    have e3 : (strB p0).size = p0.length := rfl
                    have s1 : ¬ 9223372036854775807 < (strB p2).size + (strB xa).size := by
                      show ¬ 9223372036854775807 < p2.length + xa.length
                      have := R.l0
                      rw [hi0, List.length_append] at this; omega
                    have hlm : ¬ (m0 : Int) < (p0.length : Int) := by omega
                    obtain ⟨C, hC⟩ : ∃ C : World → Prop, C = fun w' => w'.cell? ⟨I, 0, none⟩ = some (.string (strB i0)) ∧ w'.cell? ⟨O, 1, none⟩ = some (.string (strB p2)) ∧ w'.cell? ⟨E, 0, none⟩ = some (.int .i64 0) ∧ w'.cell? ⟨O, 0, none⟩ = some (.string (strB p0)) ∧ w'.cell? ⟨M, 0, none⟩ = some (.int .i64 m0) := ⟨_, rfl⟩
                    have hCo : ∀ w', C w' → w'.cell? ⟨I, 0, none⟩ = some (.string (strB i0)) ∧ w'.cell? ⟨O, 1, none⟩ = some (.string (strB p2)) ∧ w'.cell? ⟨E, 0, none⟩ = some (.int .i64 0) ∧ w'.cell? ⟨O, 0, none⟩ = some (.string (strB p0)) ∧ w'.cell? ⟨M, 0, none⟩ = some (.int .i64 m0) := fun w' h => by rw [hC] at h; exact h
                    have hC0 : C wr.drew := by rw [hC]; exact ⟨c1, c2, c3, c4, c5⟩
                    have cc1 : ∀ x : { w' // C w' }, x.1.cell? ⟨I, 0, none⟩ = some (.string (strB i0)) := fun y => (hCo _ y.2).1
                    have cc2 : ∀ x : { w' // C w' }, x.1.cell? ⟨O, 1, none⟩ = some (.string (strB p2)) := fun y => (hCo _ y.2).2.1
                    have cc3 : ∀ x : { w' // C w' }, x.1.cell? ⟨E, 0, none⟩ = some (.int .i64 0) := fun y => (hCo _ y.2).2.2.1
                    have cc4 : ∀ x : { w' // C w' }, x.1.cell? ⟨O, 0, none⟩ = some (.string (strB p0)) := fun y => (hCo _ y.2).2.2.2.1
                    have cc5 : ∀ x : { w' // C w' }, x.1.cell? ⟨M, 0, none⟩ = some (.int .i64 m0) := fun y => (hCo _ y.2).2.2.2.2
                    haveI : Nonempty { w' // C w' } := ⟨⟨_, hC0⟩⟩
                    rw [hi0, ← e2] at cc1
                    clear c1 c2 c3 c4 c5 hIy hOy hEy hMy hPy hPd
                    go_wp2_with fail
                    refine wp_region_fxl C [10, 11] [] [2, 5, 9, 17, 21] rfl (by kernel_rfl) hC0 (fun M' => ?_)
                    refine wpFx_pure rfl (fun K hK => ?_); go_simp; refine hK _ ?_; clear hK K
                    refine wpFx_pure rfl (fun K hK => ?_); go_simp; refine hK _ ?_; clear hK K
                    refine wpFx_load rfl rfl (fun K hK => ?_); go_simp; refine hK _ ?_; clear hK K
                    refine wpFx_pure rfl (fun K hK => ?_); go_simp; refine hK _ ?_; clear hK K
                    refine wpFx_pure rfl (fun K hK => ?_); go_simp; refine hK _ ?_; clear hK K
                    refine wpFx_load rfl rfl (fun K hK => ?_); go_simp; refine hK _ ?_; clear hK K
                    refine wpFx_pure rfl (fun K hK => ?_); go_simp; refine hK _ ?_; clear hK K
                    refine wpFx_pure rfl (fun K hK => ?_); go_simp; refine hK _ ?_; clear hK K
                    refine wpFx_pure rfl (fun K hK => ?_); go_simp; refine hK _ ?_; clear hK K
                    refine wpFx_load rfl rfl (fun K hK => ?_); go_simp; refine hK _ ?_; clear hK K
                    refine wpFx_es rfl rfl (fun K hK => ?_); go_simp
                    refine hPk.mono ?_
                    rintro e wz ⟨v, rfl, hG, hUz⟩
                    have hCz : C wz := by
                      have kk : ∀ {a : Addr} {u : Value}, wr.drew.cell? a = some u → wz.cell? a = some u := fun {a u} ha => by rw [hUz.cell (World.block_lt_of_cell? _ _ ha) (by simp)]; exact ha
                      obtain ⟨d1, d2, d3, d4, d5⟩ := hCo _ hC0
                      rw [hC]; exact ⟨kk d1, kk d2, kk d3, kk d4, kk d5⟩
                    refine hK _ _ hCz ?_
                    clear hK K
                    obtain ⟨av', cv', rfl⟩ := hG.shape
                    have hcv := run_string_of (P := Try.prog) (Own.rd hG) 35 5 9 Try.underlying35 Try.underlying5 Try.underlying9
                    refine wpFx_es rfl rfl (fun K hK => ?_); go_simp
                    refine hK _ _ hCz ?_
                    clear hK K
                    refine wpFx_pure rfl (fun K hK => ?_); go_simp; refine hK _ ?_; clear hK K
                    refine wpFx_pure rfl (fun K hK => ?_); go_simp; refine hK _ ?_; clear hK K
                    refine wpFx_pure rfl (fun K hK => ?_); go_simp; refine hK _ ?_; clear hK K
                    refine wpFx_pure rfl (fun K hK => ?_); go_simp; refine hK _ ?_; clear hK K
                    refine wpFx_pure rfl (fun K hK => ?_); go_simp; refine hK _ ?_; clear hK K
                    refine wpFx_load rfl rfl (fun K hK => ?_); go_simp; refine hK _ ?_; clear hK K
                    refine wpFx_pure rfl (fun K hK => ?_); go_simp; refine hK _ ?_; clear hK K
                    refine wpFx_pure rfl (fun K hK => ?_); go_simp; refine hK _ ?_; clear hK K
                    refine wpFx_pure rfl (fun K hK => ?_); go_simp; refine hK _ ?_; clear hK K
                    refine wpFx_load rfl rfl (fun K hK => ?_); go_simp; refine hK _ ?_; clear hK K
                    refine wpFx_pure rfl (fun K hK => ?_); go_simp; refine hK _ ?_; clear hK K
                    refine wpFx_pure rfl (fun K hK => ?_); go_simp; refine hK _ ?_; clear hK K
                    refine wpFx_nil ?_
                    clear hcv hG cc1 cc2 cc3 cc4 cc5 hC0 hCo hC hPk
                    go_wp2_with fail
                    go_roundw
                    case rel => exact ⟨1, by decide, rfl, (hUy.drew).trans_same hUz⟩
                    case measure => simp [intOf]
                · as_aux_lemma =>
                    have c1 := hIy.cell (i := 1) rfl
                    have c2 := hOy.cell (i := 0) rfl
                    have c3 := hEy.cell (i := 1) rfl
                    have c4 := hOy.cell (i := 1) rfl
                    have c5 := hMy.cell (i := 1) rfl
                    have hPd := hPy.upd ((Upd.refl [] wr).drew) (by simp)
                    have hPk : Calls Try.prog 20 #[.pointer (some ⟨b, 0, none⟩), .int .i64 2, .int .i64 1000] wr.drew fun e w' => ∃ v, e = .returned v ∧ GivenB wr.drew w' v xb ∧ Upd [] wr.drew w' := by
                      have := pt_peek 2 1000 hPd
                      have e : (pairP size (openE xa ra) (openE xb rb) []).takeB 2 1000 = xb := List.take_of_length_le (by show xb.length ≤ 1000; omega)
                      rw [e] at this
                      exact this
                    have e2 := strB_append p0 xb
                    have e3 : (strB p2).size = p2.length := rfl
                    have s1 : ¬ 9223372036854775807 < (strB p0).size + (strB xb).size := by
                      show ¬ 9223372036854775807 < p0.length + xb.length
                      have := R.l2
                      rw [hi2, List.length_append] at this; omega
                    have hlm : ¬ (m2 : Int) < (p2.length : Int) := by omega
                    obtain ⟨C, hC⟩ : ∃ C : World → Prop, C = fun w' => w'.cell? ⟨I, 1, none⟩ = some (.string (strB i2)) ∧ w'.cell? ⟨O, 0, none⟩ = some (.string (strB p0)) ∧ w'.cell? ⟨E, 1, none⟩ = some (.int .i64 2) ∧ w'.cell? ⟨O, 1, none⟩ = some (.string (strB p2)) ∧ w'.cell? ⟨M, 1, none⟩ = some (.int .i64 m2) := ⟨_, rfl⟩
                    have hCo : ∀ w', C w' → w'.cell? ⟨I, 1, none⟩ = some (.string (strB i2)) ∧ w'.cell? ⟨O, 0, none⟩ = some (.string (strB p0)) ∧ w'.cell? ⟨E, 1, none⟩ = some (.int .i64 2) ∧ w'.cell? ⟨O, 1, none⟩ = some (.string (strB p2)) ∧ w'.cell? ⟨M, 1, none⟩ = some (.int .i64 m2) := fun w' h => by rw [hC] at h; exact h
                    have hC0 : C wr.drew := by rw [hC]; exact ⟨c1, c2, c3, c4, c5⟩
                    have cc1 : ∀ x : { w' // C w' }, x.1.cell? ⟨I, 1, none⟩ = some (.string (strB i2)) := fun y => (hCo _ y.2).1
                    have cc2 : ∀ x : { w' // C w' }, x.1.cell? ⟨O, 0, none⟩ = some (.string (strB p0)) := fun y => (hCo _ y.2).2.1
                    have cc3 : ∀ x : { w' // C w' }, x.1.cell? ⟨E, 1, none⟩ = some (.int .i64 2) := fun y => (hCo _ y.2).2.2.1
                    have cc4 : ∀ x : { w' // C w' }, x.1.cell? ⟨O, 1, none⟩ = some (.string (strB p2)) := fun y => (hCo _ y.2).2.2.2.1
                    have cc5 : ∀ x : { w' // C w' }, x.1.cell? ⟨M, 1, none⟩ = some (.int .i64 m2) := fun y => (hCo _ y.2).2.2.2.2
                    haveI : Nonempty { w' // C w' } := ⟨⟨_, hC0⟩⟩
                    rw [hi2, ← e2] at cc1
                    clear c1 c2 c3 c4 c5 hIy hOy hEy hMy hPy hPd
                    go_wp2_with fail
                    refine wp_region_fxl C [10, 11] [] [2, 5, 9, 17, 21] rfl (by kernel_rfl) hC0 (fun M' => ?_)
                    refine wpFx_pure rfl (fun K hK => ?_); go_simp; refine hK _ ?_; clear hK K
                    refine wpFx_pure rfl (fun K hK => ?_); go_simp; refine hK _ ?_; clear hK K
                    refine wpFx_load rfl rfl (fun K hK => ?_); go_simp; refine hK _ ?_; clear hK K
                    refine wpFx_pure rfl (fun K hK => ?_); go_simp; refine hK _ ?_; clear hK K
                    refine wpFx_pure rfl (fun K hK => ?_); go_simp; refine hK _ ?_; clear hK K
                    refine wpFx_load rfl rfl (fun K hK => ?_); go_simp; refine hK _ ?_; clear hK K
                    refine wpFx_pure rfl (fun K hK => ?_); go_simp; refine hK _ ?_; clear hK K
                    refine wpFx_pure rfl (fun K hK => ?_); go_simp; refine hK _ ?_; clear hK K
                    refine wpFx_pure rfl (fun K hK => ?_); go_simp; refine hK _ ?_; clear hK K
                    refine wpFx_load rfl rfl (fun K hK => ?_); go_simp; refine hK _ ?_; clear hK K
                    refine wpFx_es rfl rfl (fun K hK => ?_); go_simp
                    refine hPk.mono ?_
                    rintro e wz ⟨v, rfl, hG, hUz⟩
                    have hCz : C wz := by
                      have kk : ∀ {a : Addr} {u : Value}, wr.drew.cell? a = some u → wz.cell? a = some u := fun {a u} ha => by rw [hUz.cell (World.block_lt_of_cell? _ _ ha) (by simp)]; exact ha
                      obtain ⟨d1, d2, d3, d4, d5⟩ := hCo _ hC0
                      rw [hC]; exact ⟨kk d1, kk d2, kk d3, kk d4, kk d5⟩
                    refine hK _ _ hCz ?_
                    clear hK K
                    obtain ⟨av', cv', rfl⟩ := hG.shape
                    have hcv := run_string_of (P := Try.prog) (Own.rd hG) 35 5 9 Try.underlying35 Try.underlying5 Try.underlying9
                    refine wpFx_es rfl rfl (fun K hK => ?_); go_simp
                    refine hK _ _ hCz ?_
                    clear hK K
                    refine wpFx_pure rfl (fun K hK => ?_); go_simp; refine hK _ ?_; clear hK K
                    refine wpFx_pure rfl (fun K hK => ?_); go_simp; refine hK _ ?_; clear hK K
                    refine wpFx_pure rfl (fun K hK => ?_); go_simp; refine hK _ ?_; clear hK K
                    refine wpFx_pure rfl (fun K hK => ?_); go_simp; refine hK _ ?_; clear hK K
                    refine wpFx_pure rfl (fun K hK => ?_); go_simp; refine hK _ ?_; clear hK K
                    refine wpFx_load rfl rfl (fun K hK => ?_); go_simp; refine hK _ ?_; clear hK K
                    refine wpFx_pure rfl (fun K hK => ?_); go_simp; refine hK _ ?_; clear hK K
                    refine wpFx_pure rfl (fun K hK => ?_); go_simp; refine hK _ ?_; clear hK K
                    refine wpFx_pure rfl (fun K hK => ?_); go_simp; refine hK _ ?_; clear hK K
                    refine wpFx_load rfl rfl (fun K hK => ?_); go_simp; refine hK _ ?_; clear hK K
                    refine wpFx_pure rfl (fun K hK => ?_); go_simp; refine hK _ ?_; clear hK K
                    refine wpFx_pure rfl (fun K hK => ?_); go_simp; refine hK _ ?_; clear hK K
                    refine wpFx_nil ?_
                    clear hcv hG cc1 cc2 cc3 cc4 cc5 hC0 hCo hC hPk
                    go_wp2_with fail
                    go_roundw
                    case rel => exact ⟨2, by decide, rfl, (hUy.drew).trans_same hUz⟩
                    case measure => simp [intOf]
                · have hRel : OrdRel w b size I O M E (i + 1) wr := ⟨l10, xa, ra, xb, rb, i0, i2, p0, p2, m0, m2, ⟨hPy, hIy, hOy, hMy, hEy, nI10, nO10, nM10, nE10, by rw [hi0]; simp [bytesTo], by rw [hi2]; simp [bytesTo], R.l0, R.l2, by simpa [bytesTo] using hr0, by simpa [bytesTo] using hr2, R.k0, R.k2, (fun j o h => by simp at h), Nat.zero_le _, hUw.trans_same hUy⟩⟩
                  clear hPy hIy hOy hMy hEy
                  go_wp2_with fail
                  go_roundw
                  case rel => exact ⟨i + 1, hlt, by go_num, hRel⟩
                  case measure => simp [intOf]; omega
    · obtain rfl : i = len1 := by omega
      go_wp2_with fail
      go_ret
      exact ⟨rfl, R.U⟩

end Go.Proofs.Ytnbhgfnjnccakaa
