/- The law RelayEnds: the walk. -/
import Derived.Test.YtnbhgfnjnccakaaRelay6
import Derived.Deep.DeepCutAuto
namespace Go.Proofs.Ytnbhgfnjnccakaa
open Go Go.RowKit
set_option linter.unusedVariables false

/-- A slice of numbers within the form's reach. -/
theorem intsLen_of_trod {H : Type} {enc : TypeId × Value → H} {W : World} {fuel : Nat} {a : Option Addr} {len cap : Nat} {x : DataW H × List MemPlace}
    (hf : DataW.trod enc Try.prog W 0 (fun _ => true) true fuel 23 [.slice a len cap] = some x) (hr : ∀ n ∈ DataW.weights Try.prog 23 x.1, n ≤ reachBytes) : len ≤ 17592186044416 := by
  have b3 : Try.prog.bytesOf 3 = 8 := by kernel_rfl
  rcases ChangeShapes.open_ints Try.underlying23 Try.underlying3 (by kernel_rfl) hf with ⟨hcs, _⟩ | ⟨x, l, c, zs, hcs, _, hl, hm, hz, rfl, _⟩
  · simp at hcs
    omega
  · simp at hcs
    obtain ⟨rfl, rfl, rfl⟩ := hcs
    have hb := hr _ (by simp only [DataW.weights, Try.underlying23, List.mem_cons]; exact Or.inl rfl)
    rw [b3] at hb
    simp [reachBytes, ChangeShapes.lits] at hb
    simp at hz
    omega

/-- What holds between two rounds: the pair runs. -/
structure EndsRun (w : World) (b S F n m len i : Nat) (l : PLay) (xa : List UInt8) (ra : Nat) (oa : Bool) (xb : List UInt8) (rb : Nat) (ob : Bool) (s0 s2 : Nat) (wr : World) : Prop where
  P : PortAt wr w.heap.size b l (endsP xa ra oa xb rb ob [])
  s : Blk wr S 73 [.int .i64 s0, .int .i64 s2]
  f : Blk wr F 74 [.bool oa, .bool ob]
  nS : S ∉ l.foot
  nF : F ∉ l.foot
  sa : s2 + xa.length = n
  sb : s0 + xb.length = m
  ea : ob = true → xa = []
  eb : oa = true → xb = []
  la : xa.length ≤ 64
  lb : xb.length ≤ 64
  pa : len ≤ i → xa.length = 0 ∨ xa.length + (i - len) ≤ 64
  pb : len ≤ i → xb.length = 0 ∨ xb.length + (i - len) ≤ 64
  nd : i = 0 ∨ (eNil xa && eNil xb) = false
  U : Upd [] w wr

def EndsRel (w : World) (b S F n m len i : Nat) (done : Bool) (wr : World) : Prop :=
  (done = false ∧ ∃ l xa ra oa xb rb ob s0 s2, EndsRun w b S F n m len i l xa ra oa xb rb ob s0 s2 wr) ∨ (done = true ∧ ∃ l, PortAt wr w.heap.size b l (goneP []) ∧ Upd [] w wr)

theorem eNil_true {xs : List UInt8} (h : eNil xs = true) : xs = [] := by
  unfold eNil at h; simpa using h
theorem eNil_len {xs : List UInt8} (h : eNil xs = false) : 0 < xs.length := by
  unfold eNil at h
  have : ¬ xs.length = 0 := by simpa using h
  omega

/-- What goes on at one endpoint in a round. -/
theorem ends_go {xs : List UInt8} {o : Bool} {r m i len : Nat} (hm : 1 ≤ m) (he : o = true → xs = []) (hl : xs.length ≤ 64) (hp : len ≤ i → xs.length = 0 ∨ xs.length + (i - len) ≤ 64) (hr : len ≤ i → 1 ≤ r) :
    (len ≤ i + 1 → (xs.drop (og xs (roomB o r) m)).length = 0 ∨ (xs.drop (og xs (roomB o r) m)).length + (i + 1 - len) ≤ 64) ∧ (xs.drop (og xs (roomB o r) m)).length ≤ 64 ∧
    (o || eNil (xs.drop (og xs (roomB o r) m))) = eNil (xs.drop (og xs (roomB o r) m)) := by
  have hx : o = false ∨ xs = [] := by
    cases o
    · exact Or.inl rfl
    · exact Or.inr (he rfl)
  rcases hx with rfl | rfl
  · refine ⟨fun h => ?_, by rw [List.length_drop]; omega, by simp⟩
    rw [List.length_drop]
    by_cases hi : len ≤ i
    · have := hp hi
      have := hr hi
      unfold og roomB
      simp only [Bool.false_eq_true, if_false]
      omega
    · omega
  · exact ⟨fun h => Or.inl (by simp), by simp, by cases o <;> simp [eNil]⟩

set_option maxHeartbeats 4000000 in
set_option maxRecDepth 100000 in
theorem relayEnds_law (w : World) (sa : ByteArray) (hsa : sa.size ≤ 140737488355328) (sb : ByteArray) (hsb : sb.size ≤ 140737488355328)
    (a2 : Option Addr) (len cap2 : Nat) (zs : List Int) (h2 : IRow w a2 len zs) (hlen : len ≤ 17592186044416) (most : Int) :
    Calls Try.prog 7 #[.string sa, .string sb, .slice a2 len cap2, .int .i64 most] w (Fine w (.bool true)) := by
  obtain ⟨ds, rfl⟩ : ∃ bs, sa = strB bs := ⟨sa.data.toList, rfl⟩
  obtain ⟨bs, rfl⟩ : ∃ bs, sb = strB bs := ⟨sb.data.toList, rfl⟩
  have hal : ds.length ≤ 140737488355328 := hsa
  have hbl : bs.length ≤ 140737488355328 := hsb
  have hr := among_range most 20 (by decide)
  obtain ⟨m, hm⟩ : ∃ m : Nat, 1 + among most 20 = m := ⟨(1 + among most 20).toNat, by omega⟩
  have wm : IntKind.i64.wrap (1 + among most 20) = (m : Int) := by rw [IntWalk.i64_in _ (by omega)]; exact hm
  have hm1 : 1 ≤ m := by omega
  have hm2 : m ≤ 20 := by omega
  go_enter Try.func7, Try.ntmps7
  go_wp2_with fail
  refine (relay_works _).mono ?_
  rintro e w0 ⟨rfl, hU0⟩
  go_wp2_with fail
  refine (both_ok 64 w0 (by decide) (by decide)).mono ?_
  rintro e w1 ⟨b, l, c, L, rfl, T⟩
  have h1 : PortAt w1 w.heap.size b l ⟨2, 64, [EndM.reset 1, EndM.reset 1, EndM.reset 1, EndM.reset 0], [], []⟩ := T.P.mono hU0.size
  have hU1 := hU0.trans_same T.U
  have hb : w.heap.size ≤ w.heap.size := Nat.le_refl _
  clear T hU0
  go_wp2_with fail
  refine (among_any most 20 _ (by decide) (by decide)).mono ?_
  rintro e w' ⟨rfl, rfl⟩
  have hD : Calls Try.prog 17 #[.pointer (some ⟨b, 0, none⟩), evV 2 0 0 ds none 0 0] w1 (EvPost w1 w.heap.size b l (putK 64 [] ds) 0 ⟨2, 64, [openE ([] ++ ds.take (putK 64 [] ds)) 0, EndM.reset 1, EndM.reset 1, EndM.reset 0], [], []⟩) := ev_data_ok 0 ds hal none 0 0 (i := 0) h1 rfl rfl rfl
  obtain ⟨ya, hya⟩ : ∃ ys, ys = ds.take (putK 64 [] ds) := ⟨_, rfl⟩
  have hyal : ya.length = putK 64 [] ds ∧ putK 64 [] ds ≤ 64 := by
    rw [hya, List.length_take]; unfold putK; simp; omega
  rw [← hya, List.nil_append] at hD
  generalize putK 64 [] ds = na at *
  clear hya
  go_wp2_with fail
  refine hD.mono ?_
  rintro e w2 ⟨rfl, hp⟩
  have hU2 := h1.below hp.2 hU1 hb
  have h2' := hp.1
  clear h1 hU1 hp hD
  have hD : Calls Try.prog 17 #[.pointer (some ⟨b, 0, none⟩), evV 2 2 0 bs none 0 0] w2 (EvPost w2 w.heap.size b l (putK 64 [] bs) 0 (pairP 64 (openE ya 0) (openE ([] ++ bs.take (putK 64 [] bs)) 0) [])) := ev_data_ok 0 bs hbl none 0 0 (i := 2) h2' rfl rfl rfl
  obtain ⟨yb, hyb⟩ : ∃ ys, ys = bs.take (putK 64 [] bs) := ⟨_, rfl⟩
  have hybl : yb.length = putK 64 [] bs ∧ putK 64 [] bs ≤ 64 := by
    rw [hyb, List.length_take]; unfold putK; simp; omega
  rw [← hyb, List.nil_append] at hD
  generalize putK 64 [] bs = nb at *
  clear hyb
  go_wp2_with fail
  refine hD.mono ?_
  rintro e w3 ⟨rfl, hp⟩
  have hU3 := h2'.below hp.2 hU2 hb
  have h3 := hp.1
  clear h2' hU2 hp hD
  have hE : Calls Try.prog 17 #[.pointer (some ⟨b, 0, none⟩), evV 3 0 0 [] none 0 0] w3 (EvPost w3 w.heap.size b l 0 0 (pairP 64 (endE ya 0 false) (openE yb 0) [])) := ev_fin_ok 0 [] none 0 0 (i := 0) h3 rfl rfl rfl
  go_wp2_with fail
  refine hE.mono ?_
  rintro e w4 ⟨rfl, hp⟩
  have hU4 := h3.below hp.2 hU3 hb
  have h4 := hp.1
  clear h3 hU3 hp hE
  have hE : Calls Try.prog 17 #[.pointer (some ⟨b, 0, none⟩), evV 3 2 0 [] none 0 0] w4 (EvPost w4 w.heap.size b l 0 0 (endsP ya 0 false yb 0 false [])) := ev_fin_ok 0 [] none 0 0 (i := 2) h4 rfl rfl rfl
  go_wp2_with fail
  refine hE.mono ?_
  rintro e w5 ⟨rfl, hp⟩
  have hU5 := h4.below hp.2 hU4 hb
  have h5 := hp.1
  clear h4 hU4 hp hE
  have kS : Upd [] w5 (w5.alloc (.cells #[.int .i64 0, .int .i64 0] 73)) := (Upd.refl _ _).alloc _
  have hS0 := blk_new' w5 73 #[.int .i64 0, .int .i64 0]
  have kF : Upd [] (w5.alloc (.cells #[.int .i64 0, .int .i64 0] 73)) ((w5.alloc (.cells #[.int .i64 0, .int .i64 0] 73)).alloc (.cells #[.bool false, .bool false] 74)) := (Upd.refl _ _).alloc _
  have hF0 := blk_new' (w5.alloc (.cells #[.int .i64 0, .int .i64 0] 73)) 74 #[.bool false, .bool false]
  have hS1 := hS0.upd kF (by simp)
  have hsz5 : w.heap.size ≤ w5.heap.size := hU5.size
  have hsz6 : (w5.alloc (.cells #[.int .i64 0, .int .i64 0] 73)).heap.size = w5.heap.size + 1 := by rw [World.size_alloc]
  rw [hsz6] at hF0
  go_wp2_with fail
  have h6 := (h5.upd kS (by simp)).upd kF (by simp)
  have hst : EndsRel w b w5.heap.size (w5.heap.size + 1) na nb len 0 false ((w5.alloc (.cells #[.int .i64 0, .int .i64 0] 73)).alloc (.cells #[.bool false, .bool false] 74)) :=
    Or.inl ⟨rfl, l, ya, 0, false, yb, 0, false, 0, 0, ⟨h6, hS1, hF0, h5.fresh (Nat.le_refl _), h5.fresh (Nat.le_succ _), by omega, by omega, (fun h => by cases h), (fun h => by cases h), by omega, by omega, by omega, by omega, Or.inl rfl, (hU5.trans_same kS).trans_same kF⟩⟩
  have hSF : w5.heap.size ≠ w5.heap.size + 1 := by omega
  generalize hFe : w5.heap.size + 1 = F at *
  have hFb : w.heap.size ≤ F := by omega
  generalize w5.heap.size = S at *
  generalize ((w5.alloc (.cells #[.int .i64 0, .int .i64 0] 73)).alloc (.cells #[.bool false, .bool false] 74)) = w6 at *
  clear h5 hU5 kS hS0 kF hF0 hS1 h6 hsz6 hFe
  have wl : IntKind.i64.wrap ((len : Int) + 150) = ((len + 150 : Nat) : Int) := by rw [IntWalk.i64_in _ (by omega)]; omega
  go_loopw [18, 19] (fun dv iv wr => ∃ i : Nat, ∃ done : Bool, i ≤ len + 150 ∧ iv = .int .i64 i ∧ dv = .bool done ∧ EndsRel w b S F na nb len i done wr) (fun _ iv _ => len + 150 - (intOf iv).toNat)
  case atStart => exact ⟨0, false, Nat.zero_le _, rfl, rfl, hst⟩
  case round =>
    clear hst
    obtain ⟨i, done, hi, rfl, rfl, hR⟩ := hrel
    rcases hR with ⟨rfl, l, xa, ra, oa, xb, rb, ob, s0, s2, R⟩ | ⟨rfl, l, hP, hU⟩
    · have hlt : i < len + 150 := by
        rcases Nat.lt_or_ge i (len + 150) with h | h
        · exact h
        · exfalso
          have := R.pa (by omega)
          have := R.pb (by omega)
          rcases R.nd with h0 | h0
          · omega
          · have e1 : xa.length = 0 := by omega
            have e2 : xb.length = 0 := by omega
            have : (eNil xa && eNil xb) = true := by unfold eNil; rw [e1, e2]; rfl
            rw [this] at h0; cases h0
      go_upto_if 79 with fail
      go_cut [20] (fun rv wx => ∃ r : Nat, r ≤ 4 ∧ (len ≤ i → r = 1) ∧ rv = .int .i64 r ∧ wr = wx)
      case first =>
        by_cases hil : i < len
        · obtain ⟨y, rfl, hy0⟩ := h2 i hil
          have hy1 : wr.cell? (y.add i) = some (.int .i64 (zs.getD i 0)) := by rw [R.U.cell (World.block_lt_of_cell? _ _ hy0) (by simp)]; exact hy0
          generalize zs.getD i 0 = q at *
          have hrq := among_range q 5 (by decide)
          obtain ⟨r, hrr⟩ : ∃ r : Nat, among q 5 = r := ⟨(among q 5).toNat, by omega⟩
          have hA := among_any q 5 wr (by decide) (by decide)
          rw [hrr] at hA
          clear h2 hy0
          go_wp2_with fail
          refine hA.mono ?_
          rintro e w' ⟨rfl, rfl⟩
          go_wp2_with fail
          go_meet
          case rel => exact ⟨r, by omega, by omega, rfl, by first | rfl | trivial⟩
        · clear h2
          go_wp2_with fail
          go_meet
          case rel => exact ⟨1, by decide, fun _ => rfl, rfl, by first | rfl | trivial⟩
      case rest =>
        obtain ⟨r, hr4, hr1, rfl, rfl⟩ := hcut
        have hE0 : Calls Try.prog 17 #[.pointer (some ⟨b, 0, none⟩), evV 5 0 r [] none 0 0] wr (EvPost wr w.heap.size b l 0 0 (endsP xa (ra + min r (1099511627776 - ra)) oa xb rb ob [])) := ev_room_ok r [] none 0 0 (i := 0) R.P rfl rfl
        have hra := (R.P.fine (endE xa ra oa) (by simp [endsP, pairP])).2
        have hrb := (R.P.fine (endE xb rb ob) (by simp [endsP, pairP])).2
        have hra : ra ≤ 1099511627776 := hra
        have hrb : rb ≤ 1099511627776 := hrb
        have hra1 : len ≤ i → 1 ≤ ra + min r (1099511627776 - ra) := fun h => by have := hr1 h; omega
        have hrb1 : len ≤ i → 1 ≤ rb + min r (1099511627776 - rb) := fun h => by have := hr1 h; omega
        generalize ra + min r (1099511627776 - ra) = ra' at *
        clear h2
        go_wp2_with fail
        refine hE0.mono ?_
        rintro e w7 ⟨rfl, hp⟩
        have hU7 := R.P.below hp.2 R.U hb
        have h7 := hp.1
        have hS7 := R.s.upd hp.2 R.nS
        have hF7 := R.f.upd hp.2 R.nF
        clear hp hE0
        have hE0 : Calls Try.prog 17 #[.pointer (some ⟨b, 0, none⟩), evV 5 2 r [] none 0 0] w7 (EvPost w7 w.heap.size b l 0 0 (endsP xa ra' oa xb (rb + min r (1099511627776 - rb)) ob [])) := ev_room_ok r [] none 0 0 (i := 2) h7 rfl rfl
        generalize rb + min r (1099511627776 - rb) = rb' at *
        go_wp2_with fail
        refine hE0.mono ?_
        rintro e w8 ⟨rfl, hp⟩
        have hU8 := h7.below hp.2 hU7 hb
        have h8 := hp.1
        have hS8 := hS7.upd hp.2 R.nS
        have hF8 := hF7.upd hp.2 R.nF
        clear hp hE0 h7 hU7 hS7 hF7
        have hSt := rl_step 0 2 m h8 (by show 0 < 100000000000; decide)
        obtain ⟨q1, q2⟩ := ends_step (xa := xa) (xb := xb) (ra := ra') (rb := rb') (oa := oa) (ob := ob) (m := m) hm1
        rw [q1] at hSt
        obtain ⟨t1, t2, t3, t4, t5, t6⟩ := ends_told xa ra' oa xb rb' ob m
        obtain ⟨g1, g2, g3⟩ := ends_go (xs := xa) (o := ob) (r := rb') (m := m) (i := i) (len := len) hm1 R.ea R.la R.pa hrb1
        obtain ⟨g4, g5, g6⟩ := ends_go (xs := xb) (o := oa) (r := ra') (m := m) (i := i) (len := len) hm1 R.eb R.lb R.pb hra1
        have lxa : (xa.drop (og xa (roomB ob rb') m)).length = xa.length - og xa (roomB ob rb') m := List.length_drop
        have lxb : (xb.drop (og xb (roomB oa ra') m)).length = xb.length - og xb (roomB oa ra') m := List.length_drop
        have ola := og_le xa (roomB ob rb') m
        have olb := og_le xb (roomB oa ra') m
        rw [g3, g6] at q2
        have hpo : ((endsP xa ra' oa xb rb' ob []).stepped 0 2 m).outs = endsO xa ra' oa xb rb' ob m := by
          rw [q2]; split <;> rfl
        have Q2 := Lib.hid q2
        clear q1 q2
        generalize (endsP xa ra' oa xb rb' ob []).stepped 0 2 m = p4 at *
        generalize endsO xa ra' oa xb rb' ob m = os at *
        generalize hxa1 : xa.drop (og xa (roomB ob rb') m) = xa1 at *
        generalize hxb1 : xb.drop (og xb (roomB oa ra') m) = xb1 at *
        clear hxa1 hxb1
        generalize og xa (roomB ob rb') m = n1 at *
        generalize og xb (roomB oa ra') m = n2 at *
        obtain ⟨od, hod⟩ : ∃ od, od = (eNil xa1 && eNil xb1) := ⟨_, rfl⟩
        rw [← hod] at hSt
        have Hod := Lib.hid hod
        clear hod
        go_wp2_with fail
        refine hSt.mono ?_
        rintro e w9 ⟨rfl, l9, h9, hu9, hW9⟩
        have hU9 := h8.below hu9 hU8 hb
        have hS9 := hS8.upd hu9 R.nS
        have hF9 := hF8.upd hu9 R.nF
        have nS9 := within_keep hW9 R.nS hS8.lt
        have nF9 := within_keep hW9 R.nF hF8.lt
        have hO := pt_outs h9
        clear h8 hU8 hS8 hF8 hSt hu9 hW9
        go_wp2_with fail
        refine hO.mono ?_
        rintro e w10 ⟨ov, rfl, hov, hot, l10, h10, hu10, hW10⟩
        rw [hpo] at hov
        have hU10 := h9.below hu10 hU9 hb
        have hS10 := hS9.upd hu10 nS9
        have hF10 := hF9.upd hu10 nF9
        have nS10 := within_keep hW10 nS9 hS9.lt
        have nF10 := within_keep hW10 nF9 hF9.lt
        have hvS : ∀ q, ov.ownBlock = some q → q ∉ [S, F] := fun q hq hq' => by
          have := (hot q hq).2.2
          simp at hq'
          rcases hq' with rfl | rfl
          · exact nS9 this
          · exact nF9 this
        obtain ⟨ao, co, rfl⟩ := hov.shape
        have hsl : s0 ≤ 64 ∧ s2 ≤ 64 ∧ n1 ≤ 64 ∧ n2 ≤ 64 := by have := R.sa; have := R.sb; have := R.la; have := R.lb; omega
        clear hO h9 hU9 hS9 hF9 hu10 hW10 hot nS9 nF9
        go_wp2_with fail
        go_loopw [25] (fun jv wx => ∃ j : Nat, j ≤ os.length ∧ jv = .int .i64 j ∧ (∃ (u0 u2 : Nat) (f0 f2 : Bool), u0 = s0 + sentTo 0 (os.take j) ∧ u2 = s2 + sentTo 2 (os.take j) ∧ f0 = (oa || finTo 0 (os.take j)) ∧ f2 = (ob || finTo 2 (os.take j)) ∧ Blk wx S 73 [.int .i64 u0, .int .i64 u2] ∧ Blk wx F 74 [.bool f0, .bool f2]) ∧ Upd [S, F] w10 wx) (fun jv _ => os.length - (intOf jv).toNat)
        case atStart => exact ⟨0, Nat.zero_le _, rfl, ⟨s0, s2, oa, ob, by simp [sentTo], by simp [sentTo], by simp [finTo], by simp [finTo], hS10, hF10⟩, Upd.refl _ _⟩
        case round =>
          obtain ⟨j, hj, rfl, ⟨u0, u2, f0, f2, hu0, hu2, hf0, hf2, hS, hF⟩, hUx⟩ := hrel
          by_cases hjl : j < os.length
          · have hov' := hov.upd hUx hvS
            obtain ⟨g1, o1, c1', pre1, rest1, hv1, _, _, _, _, hnc, hcm⟩ := hov'.blk (by intro h; injection h with _ h; omega)
            cases hv1
            clear hnc hcm
            obtain ⟨o, hp⟩ : ∃ o, os[j]? = some o := ⟨os[j], List.getElem?_eq_getElem (by omega)⟩
            have st0 := sentTo_take (en := 0) hp
            have st2 := sentTo_take (en := 2) hp
            have ft0 := finTo_take (en := 0) hp
            have ft2 := finTo_take (en := 2) hp
            have sb0 : sentTo 0 (os.take (j + 1)) ≤ 64 := by have := sentTo_pre 0 os (j + 1); omega
            have sb2 : sentTo 2 (os.take (j + 1)) ≤ 64 := by have := sentTo_pre 2 os (j + 1); omega
            have hgood := t5 j o hp
            obtain ⟨okd, oen, odata, odest⟩ := o
            have x1 := hov'.cell rfl (outsC_at hp (j := 1) (u := .int .i64 okd) rfl)
            have x2 := hov'.cell rfl (outsC_at hp (j := 2) (u := .int .i64 oen) rfl)
            have x3 := hov'.cell rfl (outsC_at hp (j := 3) (u := .string odata) rfl)
            rw [← Nat.add_assoc] at x1 x2 x3
            have e1 : (⟨g1, o1, none⟩ : Addr).add (j * 10) = ⟨g1, o1 + j * 10, none⟩ := addr_add _ _ _
            have y0 := hS.cell (i := 0) rfl
            have y1 := hS.cell (i := 1) rfl
            have yf0 := hS.frozen 0
            have yf1 := hS.frozen 1
            have z0 := hF.cell (i := 0) rfl
            have z1 := hF.cell (i := 1) rfl
            have zf0 := hF.frozen 0
            have zf1 := hF.frozen 1
            simp only at hgood st0 st2 ft0 ft2
            clear hp hov'
            rcases hgood with ⟨rfl, ⟨rfl, hfin⟩ | ⟨rfl, hfin⟩⟩ | ⟨rfl, rfl | rfl⟩
            · skip
              have ew : IntKind.i64.wrap ((u0 : Int) + (odata.size : Nat)) = ((u0 + odata.size : Nat) : Int) := by rw [IntWalk.i64_in _ (by simp at st0; omega)]; omega
              rw [← hf0] at hfin
              have hn0 : u0 + odata.size = s0 + sentTo 0 (os.take (j + 1)) := by rw [st0, hu0]; simp; omega
              have hn2 : u2 = s2 + sentTo 2 (os.take (j + 1)) := by rw [st2, hu2]; simp
              have hn3 : f0 = (oa || finTo 0 (os.take (j + 1))) := by rw [ft0, hf0]; simp
              have hn4 : f2 = (ob || finTo 2 (os.take (j + 1))) := by rw [ft2, hf2]; simp
              have K1 := Lib.hid hn0
              have K2 := Lib.hid hn2
              have K3 := Lib.hid hn3
              have K4 := Lib.hid hn4
              clear hu0 hu2 hf0 hf2 hn0 hn2 hn3 hn4 st0 st2 ft0 ft2 sb0 sb2
              rw [hfin] at z0
              go_wp2_with fail
              refine wp_region_tail 11 (by kernel_rfl) (by kernel_rfl) ?_
              simp only [List.take_succ_cons, List.take_zero, List.drop_succ_cons, List.drop_zero]
              repeat still_step
              refine wpStill_nil ?_
              go_wp2_with fail
              go_roundw
              case rel => exact ⟨j + 1, hjl, by go_num, ⟨_, _, _, _, K1.out, K2.out, K3.out, K4.out, (hS.drew.set 0 _).eq rfl, hF.drew.set_other (by simp; exact fun h => hSF h.symm) _⟩, (hUx.drew).setCell (Or.inl (by simp)) _⟩
              case measure => simp [intOf]; omega
            · skip
              have ew : IntKind.i64.wrap ((u2 : Int) + (odata.size : Nat)) = ((u2 + odata.size : Nat) : Int) := by rw [IntWalk.i64_in _ (by simp at st2; omega)]; omega
              rw [← hf2] at hfin
              have hn0 : u0 = s0 + sentTo 0 (os.take (j + 1)) := by rw [st0, hu0]; simp
              have hn2 : u2 + odata.size = s2 + sentTo 2 (os.take (j + 1)) := by rw [st2, hu2]; simp; omega
              have hn3 : f0 = (oa || finTo 0 (os.take (j + 1))) := by rw [ft0, hf0]; simp
              have hn4 : f2 = (ob || finTo 2 (os.take (j + 1))) := by rw [ft2, hf2]; simp
              have K1 := Lib.hid hn0
              have K2 := Lib.hid hn2
              have K3 := Lib.hid hn3
              have K4 := Lib.hid hn4
              clear hu0 hu2 hf0 hf2 hn0 hn2 hn3 hn4 st0 st2 ft0 ft2 sb0 sb2
              rw [hfin] at z1
              go_wp2_with fail
              refine wp_region_tail 11 (by kernel_rfl) (by kernel_rfl) ?_
              simp only [List.take_succ_cons, List.take_zero, List.drop_succ_cons, List.drop_zero]
              repeat still_step
              refine wpStill_nil ?_
              go_wp2_with fail
              go_roundw
              case rel => exact ⟨j + 1, hjl, by go_num, ⟨_, _, _, _, K1.out, K2.out, K3.out, K4.out, (hS.drew.set 1 _).eq rfl, hF.drew.set_other (by simp; exact fun h => hSF h.symm) _⟩, (hUx.drew).setCell (Or.inl (by simp)) _⟩
              case measure => simp [intOf]; omega
            · skip
              have hn0 : u0 = s0 + sentTo 0 (os.take (j + 1)) := by rw [st0, hu0]; simp
              have hn2 : u2 = s2 + sentTo 2 (os.take (j + 1)) := by rw [st2, hu2]; simp
              have hn3 : true = (oa || finTo 0 (os.take (j + 1))) := by rw [ft0]; simp
              have hn4 : f2 = (ob || finTo 2 (os.take (j + 1))) := by rw [ft2, hf2]; simp
              have K1 := Lib.hid hn0
              have K2 := Lib.hid hn2
              have K3 := Lib.hid hn3
              have K4 := Lib.hid hn4
              clear hu0 hu2 hf0 hf2 hn0 hn2 hn3 hn4 st0 st2 ft0 ft2 sb0 sb2
              go_wp2_with fail
              go_roundw
              case rel => exact ⟨j + 1, hjl, by go_num, ⟨_, _, _, _, K1.out, K2.out, K3.out, K4.out, hS.set_other (by simp; exact hSF) _, (hF.set 0 _).eq rfl⟩, hUx.setCell (Or.inl (by simp)) _⟩
              case measure => simp [intOf]; omega
            · skip
              have hn0 : u0 = s0 + sentTo 0 (os.take (j + 1)) := by rw [st0, hu0]; simp
              have hn2 : u2 = s2 + sentTo 2 (os.take (j + 1)) := by rw [st2, hu2]; simp
              have hn3 : f0 = (oa || finTo 0 (os.take (j + 1))) := by rw [ft0, hf0]; simp
              have hn4 : true = (ob || finTo 2 (os.take (j + 1))) := by rw [ft2]; simp
              have K1 := Lib.hid hn0
              have K2 := Lib.hid hn2
              have K3 := Lib.hid hn3
              have K4 := Lib.hid hn4
              clear hu0 hu2 hf0 hf2 hn0 hn2 hn3 hn4 st0 st2 ft0 ft2 sb0 sb2
              go_wp2_with fail
              go_roundw
              case rel => exact ⟨j + 1, hjl, by go_num, ⟨_, _, _, _, K1.out, K2.out, K3.out, K4.out, hS.set_other (by simp; exact hSF) _, (hF.set 1 _).eq rfl⟩, hUx.setCell (Or.inl (by simp)) _⟩
              case measure => simp [intOf]; omega
          · obtain rfl : j = os.length := by omega
            rw [List.take_length] at hu0 hu2 hf0 hf2
            have hf0' : f0 = eNil xb1 := by rw [hf0, t4, ← g6]; cases oa <;> cases eNil xb1 <;> rfl
            have hf2' : f2 = eNil xa1 := by rw [hf2, t3, ← g3]; cases ob <;> cases eNil xa1 <;> rfl
            have hU11 := hU10.trans (fun q hq => Or.inr (by simp at hq; rcases hq with rfl | rfl <;> omega)) hUx
            have h11 := h10.upd hUx (fun q hq hq' => by simp at hq; rcases hq with rfl | rfl; exact nS10 hq'; exact nF10 hq')
            have y0 := hS.cell (i := 0) rfl
            have y1 := hS.cell (i := 1) rfl
            have z0 := hF.cell (i := 0) rfl
            have z1 := hF.cell (i := 1) rfl
            have hRel : EndsRel w b S F na nb len (i + 1) od wr := by
              have hq := Q2.out
              have ho := Hod.out
              rw [← ho] at hq
              cases od
              · rw [if_neg (by simp)] at hq
                subst hq
                refine Or.inl ⟨rfl, l10, xa1, _, eNil xb1, xb1, _, eNil xa1, u0, u2, ⟨h11, hS, by rw [← hf0', ← hf2']; exact hF, nS10, nF10, by have := R.sa; omega, by have := R.sb; omega, eNil_true, eNil_true, g2, g5, g1, g4, Or.inr ho.symm, hU11⟩⟩
              · rw [if_pos rfl] at hq
                subst hq
                exact Or.inr ⟨rfl, l10, h11, hU11⟩
            have hc0 : f0 = true → u0 = nb := fun h => by
              rw [hf0'] at h
              have e := congrArg List.length (eNil_true h)
              have := R.sb
              simp only [List.length_nil] at e
              omega
            have hc2 : f2 = true → u2 = na := fun h => by
              rw [hf2'] at h
              have e := congrArg List.length (eNil_true h)
              have := R.sa
              simp only [List.length_nil] at e
              omega
            have hcd : od = (f2 && f0) := by rw [Hod.out, hf0', hf2']
            clear hS hF hUx h10 hU10 hu0 hu2 hf0 hf2 hf0' hf2' t1 t2 t3 t4 t5 t6 g1 g2 g3 g4 g5 g6 hU11 h11 hov hvS
            cases f0 <;> cases f2
            · subst hcd
              go_wp2_with fail
              go_roundw
              case rel => exact ⟨i + 1, _, hlt, by go_num, rfl, hRel⟩
              case measure => simp [intOf]; omega
            · subst hcd
              have := hc2 rfl
              subst this
              go_wp2_with fail
              go_roundw
              case rel => exact ⟨i + 1, _, hlt, by go_num, rfl, hRel⟩
              case measure => simp [intOf]; omega
            · subst hcd
              have := hc0 rfl
              subst this
              go_wp2_with fail
              go_roundw
              case rel => exact ⟨i + 1, _, hlt, by go_num, rfl, hRel⟩
              case measure => simp [intOf]; omega
            · subst hcd
              have := hc2 rfl
              subst this
              have := hc0 rfl
              subst this
              go_wp2_with fail
              go_roundw
              case rel => exact ⟨i + 1, _, hlt, by go_num, rfl, hRel⟩
              case measure => simp [intOf]; omega
    · have hS0 : Calls Try.prog 25 #[.pointer (some ⟨b, 0, none⟩), .int .i64 0] wr fun e w' => e = .returned (.tuple #[.int .i64 0, .int .i64 0]) ∧ wr = w' := pt_state 0 hP
      have hS2 : Calls Try.prog 25 #[.pointer (some ⟨b, 0, none⟩), .int .i64 2] wr fun e w' => e = .returned (.tuple #[.int .i64 0, .int .i64 0]) ∧ wr = w' := pt_state 2 hP
      by_cases hlt : i < len + 150
      · go_wp2_with fail
        refine hS0.mono ?_
        rintro e w' ⟨rfl, rfl⟩
        go_wp2_with fail
        refine hS2.mono ?_
        rintro e w' ⟨rfl, rfl⟩
        go_wp2_with fail
        go_ret
        exact ⟨rfl, hU⟩
      · obtain rfl : i = len + 150 := by omega
        go_wp2_with fail
        refine hS0.mono ?_
        rintro e w' ⟨rfl, rfl⟩
        go_wp2_with fail
        refine hS2.mono ?_
        rintro e w' ⟨rfl, rfl⟩
        go_wp2_with fail
        go_ret
        exact ⟨rfl, hU⟩

end Go.Proofs.Ytnbhgfnjnccakaa
