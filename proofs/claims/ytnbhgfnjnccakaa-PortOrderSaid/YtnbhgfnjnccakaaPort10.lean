/- What is taken from an endpoint is a beginning of what came in: the walk of the law PortOrder. -/
import Derived.Test.YtnbhgfnjnccakaaPortArgs
namespace Go.Proofs.Ytnbhgfnjnccakaa
open Go Go.RowKit
set_option linter.unusedVariables false

/-- What holds between two rounds. -/
structure OrdRel (w : World) (b : Nat) (l : PLay) (size k : Nat) (ib ob : List UInt8) (xs : List UInt8) (wr : World) : Prop where
  port : PortAt wr w.heap.size b l ⟨2, size, [EndM.reset 0, ⟨xs, 1, 0, true, false, false⟩, EndM.reset 0], [], []⟩
  eq : ib = ob ++ xs
  le : ib.length ≤ k * 200
  upd : Upd [] w wr

set_option maxHeartbeats 2000000 in
set_option maxRecDepth 100000 in
theorem portOrder_law (w : World) (size : Int) (a1 : Option Addr) (len1 cap1 : Nat) (z : Nat → List UInt8) (h1 : SRows w a1 len1 z) (hl1 : len1 ≤ 9223372036854775807)
    (a2 : Option Addr) (len2 cap2 : Nat) (zs : List Int) (h2 : IRow w a2 len2 zs) (hl2 : len2 ≤ 9223372036854775807) (fin : Bool) :
    Calls Try.prog 3 #[.int .i64 size, .slice a1 len1 cap1, .slice a2 len2 cap2, .bool fin] w (Fine w (.bool true)) := by
  obtain ⟨hl16, h1⟩ := h1
  have hr := among_range size 200 (by decide)
  obtain ⟨n, hn⟩ : ∃ n : Nat, 1 + among size 200 = n := ⟨(1 + among size 200).toNat, by omega⟩
  have wn : IntKind.i64.wrap (1 + among size 200) = (n : Int) := by rw [IntWalk.i64_in _ (by omega)]; exact hn
  have hn2 : 1 ≤ n ∧ n ≤ 200 := by omega
  go_enter Try.func3, Try.ntmps3
  go_wp2_with fail
  refine (port_works _).mono ?_
  rintro e w1 ⟨rfl, hU1⟩
  go_wp2_with fail
  refine (among_any size 200 _ (by decide) (by decide)).mono ?_
  rintro e w' ⟨rfl, rfl⟩
  go_wp2_with fail
  refine (pt_new 2 1 n _ (by decide) (by decide) hn2.1 (by omega)).mono ?_
  rintro e w2 ⟨b, l, rfl, hP, k2⟩
  have hb := hU1.size
  have hU2 := hU1.trans_same k2
  have hP : PortAt w2 w1.heap.size b l ⟨2, n, [EndM.reset 0, EndM.reset 0, EndM.reset 0], [], []⟩ := hP
  clear wn hr hn k2 hU1
  go_wp2_with fail
  have hO : Calls Try.prog 17 #[.pointer (some ⟨b, 0, none⟩), evV 1 1 0 [] none 0 0] w2 (EvPost w2 w1.heap.size b l 0 0 ⟨2, n, [EndM.reset 0, ⟨[], 1, 0, true, false, false⟩, EndM.reset 0], [], []⟩) := ev_open_ok 0 [] none 0 0 (i := 1) hP rfl (by show 1 < 2; decide) rfl
  refine hO.mono ?_
  rintro e w3 ⟨rfl, hp⟩
  have hU3 := hP.below hp.2 hU2 hb
  have hst : OrdRel w b l n 0 [] [] [] w3 := ⟨hp.1.mono hb, rfl, Nat.zero_le _, hU3⟩
  clear hP hO hU2 hU3 hp hb
  go_wp2_with fail
  go_loopw [11, 12, 13] (fun iv ov i wr => ∃ k : Nat, k ≤ len1 ∧ i = .int .i64 k ∧ ∃ ib ob xs, iv = .string (strB ib) ∧ ov = .string (strB ob) ∧ OrdRel w b l n k ib ob xs wr) (fun _ _ i _ => len1 - (intOf i).toNat)
  case atStart => exact ⟨0, Nat.zero_le _, rfl, [], [], [], rfl, rfl, hst⟩
  case round =>
    clear hst
    obtain ⟨k, hk, rfl, ib, ob, xs, rfl, rfl, hO⟩ := hrel
    have hfit := ((hO.port.rings 1 _ rfl).fit).1
    have hfit : xs.length ≤ n := hfit
    by_cases hlt : k < len1
    · obtain ⟨x, rfl, hx0, hzl⟩ := h1 k hlt
      have hx1 : wr.cell? (x.add k) = some (.string (strB (z k))) := by rw [hO.upd.cell (World.block_lt_of_cell? _ _ hx0) (by simp)]; exact hx0
      generalize hzk : z k = zk at *
      have hD : Calls Try.prog 17 #[.pointer (some ⟨b, 0, none⟩), evV 2 1 0 zk none 0 0] wr (EvPost wr w.heap.size b l (putK n xs zk) 0 ⟨2, n, [EndM.reset 0, ⟨xs ++ zk.take (putK n xs zk), 1, 0, true, false, false⟩, EndM.reset 0], [], []⟩) := ev_data_ok 0 zk hzl none 0 0 (i := 1) hO.port rfl rfl rfl
      have hpk : putK n xs zk ≤ zk.length ∧ xs.length + putK n xs zk ≤ n := by unfold putK; omega
      generalize putK n xs zk = m at *
      go_wp2_with fail
      refine hD.mono ?_
      rintro e w4 ⟨rfl, hp⟩
      have hU4 := hO.port.below hp.2 hO.upd (Nat.le_refl _)
      have hx4 : w4.cell? (x.add k) = some (.string (strB zk)) := by rw [hU4.cell (World.block_lt_of_cell? _ _ hx0) (by simp)]; exact hx0
      have hP4 := hp.1
      have e1 : (strB zk).extract 0 m = strB (zk.take m) := strB_extract zk m
      have e2 : strB ib ++ strB (zk.take m) = strB (ib ++ zk.take m) := strB_append _ _
      have e3 : (strB zk).size = zk.length := rfl
      clear hD hp hx1
      have hle4 : (ib ++ zk.take m).length ≤ (k + 1) * 200 := by
        have := hO.le
        rw [List.length_append, List.length_take]; omega
      have heq4 := Lib.hid (show ib ++ zk.take m = ob ++ (xs ++ zk.take m) by rw [hO.eq, List.append_assoc])
      have s1 : ¬ 9223372036854775807 < (strB ib).size + (strB (zk.take m)).size := by
        show ¬ 9223372036854775807 < ib.length + (zk.take m).length
        rw [List.length_append] at hle4; omega
      by_cases hk2 : k < len2
      · obtain ⟨y, rfl, hy0⟩ := h2 k hk2
        have hy4 : w4.cell? (y.add k) = some (.int .i64 (zs.getD k 0)) := by rw [hU4.cell (World.block_lt_of_cell? _ _ hy0) (by simp)]; exact hy0
        generalize zs.getD k 0 = t at *
        have hT : Calls Try.prog 18 #[.pointer (some ⟨b, 0, none⟩), .int .i64 1, .int .i64 t] w4 (PTakePost w4 w.heap.size b l ⟨2, n, [EndM.reset 0, ⟨(xs ++ zk.take m).drop t.toNat, 1, 0, true, false, false⟩, EndM.reset 0], [], []⟩ ((xs ++ zk.take m).take t.toNat)) := pt_take 1 t hP4
        have hcat : (xs ++ zk.take m).take t.toNat ++ (xs ++ zk.take m).drop t.toNat = xs ++ zk.take m := List.take_append_drop _ _
        have hcat := Lib.hid hcat
        generalize (xs ++ zk.take m).take t.toNat = ys at *
        generalize (xs ++ zk.take m).drop t.toNat = xs' at *
        generalize xs ++ zk.take m = xs4 at *
        rename_i hcat0
        clear hO hcat0
        go_wp2_with fail
        refine hT.mono ?_
        rintro e w5 ⟨tv, rfl, hG, hp⟩
        have hU5 := hP4.below hp.2 hU4 (Nat.le_refl _)
        have hP5 := hp.1
        obtain ⟨ta, tc, rfl⟩ := hG.shape
        have hs := run_string_of (P := Try.prog) (Own.rd hG) 35 5 9 Try.underlying35 Try.underlying5 Try.underlying9
        have e5 : strB ob ++ strB ys = strB (ob ++ ys) := strB_append _ _
        have s2 : ¬ 9223372036854775807 < (strB ob).size + (strB ys).size := by
          show ¬ 9223372036854775807 < ob.length + ys.length
          have q1 := congrArg List.length heq4.out
          have q2 := congrArg List.length hcat.out
          simp only [List.length_append] at q1 q2 hle4
          omega
        clear hp hG hT hP4 hU4 hx4 hy4 e1 e2 e3
        go_wp2_with fail
        go_roundw
        case rel => exact ⟨k + 1, hlt, by go_num, ib ++ zk.take m, ob ++ ys, xs', rfl, rfl, ⟨hP5, by rw [heq4.out, ← hcat.out, List.append_assoc], hle4, hU5⟩⟩
        case measure => simp [intOf]; omega
      · clear h2
        go_wp2_with fail
        go_roundw
        case rel => exact ⟨k + 1, hlt, by go_num, ib ++ zk.take m, ob, xs ++ zk.take m, rfl, rfl, ⟨hP4, heq4.out, hle4, hU4⟩⟩
        case measure => simp [intOf]; omega
    · obtain rfl : k = len1 := by omega
      obtain ⟨hP, heq, hle, hU⟩ := hO
      clear h1 h2
      have htk : xs.take 1000 = xs := List.take_of_length_le (by omega)
      have hobl : ob.length ≤ 9223372036854775807 := by
        have : ob.length ≤ ib.length := by rw [heq, List.length_append]; omega
        omega
      have s3 : ¬ 9223372036854775807 < (strB ob).size + (strB xs).size := by
        show ¬ 9223372036854775807 < ob.length + xs.length
        have q := congrArg List.length heq
        rw [List.length_append] at q
        omega
      have Heq := Lib.hid heq
      clear heq
      have tail : ∀ (th : Bool) (wr : World), PortAt wr w.heap.size b l ⟨2, n, [EndM.reset 0, ⟨xs, 1, 0, true, th, false⟩, EndM.reset 0], [], []⟩ → Calls Try.prog 20 #[.pointer (some ⟨b, 0, none⟩), .int .i64 1, .int .i64 1000] wr fun e w' => ∃ v, e = .returned v ∧ GivenB wr w' v xs ∧ Upd [] wr w' := fun th wr h => by
        have := pt_peek 1 1000 h
        have e : PortM.takeB ⟨2, n, [EndM.reset 0, ⟨xs, 1, 0, true, th, false⟩, EndM.reset 0], [], []⟩ 1 1000 = xs.take 1000 := rfl
        rw [e, htk] at this
        exact this
      cases fin with
      | true =>
        have hF : Calls Try.prog 17 #[.pointer (some ⟨b, 0, none⟩), evV 3 1 0 [] none 0 0] wr (EvPost wr w.heap.size b l 0 0 ⟨2, n, [EndM.reset 0, ⟨xs, 1, 0, true, true, false⟩, EndM.reset 0], [], []⟩) := ev_fin_ok 0 [] none 0 0 (i := 1) hP rfl rfl rfl
        go_wp2_with fail
        refine hF.mono ?_
        rintro e w4 ⟨rfl, hp⟩
        have hU4 := hP.below hp.2 hU (Nat.le_refl _)
        have hP4 := hp.1
        have hD : Calls Try.prog 17 #[.pointer (some ⟨b, 0, none⟩), evV 2 1 0 [108, 97, 116, 101] none 0 0] w4 (EvPost w4 w.heap.size b l 0 150 ⟨2, n, [EndM.reset 0, ⟨xs, 1, 0, true, true, false⟩, EndM.reset 0], [], []⟩) := ev_data_th 0 [108, 97, 116, 101] none 0 0 (i := 1) hP4 rfl rfl rfl
        clear hp hF hU hP
        go_wp2_with fail
        refine hD.mono ?_
        rintro e w5 ⟨rfl, hp⟩
        have hU5 := hP4.below hp.2 hU4 (Nat.le_refl _)
        have hP5 := hp.1
        have hB := begins_ok ob xs w5 hobl
        have hK := tail true w5 hP5
        clear hp hD hU4 hP4 tail
        rw [← Heq.out] at hB
        go_wp2_with fail
        refine hB.mono ?_
        rintro e w' ⟨rfl, rfl⟩
        go_wp2_with fail
        refine hK.mono ?_
        rintro e w6 ⟨tv, rfl, hG, k6⟩
        have hP6 := hP5.upd k6 (by simp)
        have hU6 := hU5.trans_same k6
        obtain ⟨ta, tc, rfl⟩ := hG.shape
        have hs := run_string_of (P := Try.prog) (Own.rd hG) 35 5 9 Try.underlying35 Try.underlying5 Try.underlying9
        have e5 : strB ob ++ strB xs = strB ib := by rw [strB_append, Heq.out]
        have hE := pt_ended 1 hP6
        have hEv : PortM.ended ⟨2, n, [EndM.reset 0, ⟨xs, 1, 0, true, true, false⟩, EndM.reset 0], [], []⟩ 1 = (xs.length == 0) := rfl
        rw [hEv] at hE
        clear hB hK hP5 hU5 k6 hG
        by_cases hxs : xs = []
        · have e6 : strB ib = strB ob := by rw [Heq.out, hxs, List.append_nil]
          have e7 : (xs.length == 0) = true := by rw [hxs]; rfl
          rw [e7] at hE
          rw [e6] at e5 ⊢
          clear hxs e7 Heq
          go_wp2_with fail
          refine hE.mono ?_
          rintro e w' ⟨rfl, rfl⟩
          go_wp2_with fail
          go_ret
          exact ⟨rfl, hU6⟩
        · have e6 : ¬ strB ib = strB ob := by
            rw [strB_eq, Heq.out]
            intro h
            have := congrArg List.length h
            rw [List.length_append] at this
            exact hxs (List.eq_nil_of_length_eq_zero (by omega))
          have e8 : ((strB ib).toList == (strB ob).toList) = false := by
            rw [strB_toList, strB_toList]
            rw [strB_eq] at e6
            simpa using e6
          have e7 : (xs.length == 0) = false := by
            simp; exact hxs
          rw [e7] at hE
          clear hxs e7 Heq
          go_wp2_with fail
          refine hE.mono ?_
          rintro e w' ⟨rfl, rfl⟩
          go_wp2_with fail
          go_ret
          exact ⟨rfl, hU6⟩
      | false =>
        have hB := begins_ok ob xs wr hobl
        have hK := tail false wr hP
        clear tail
        rw [← Heq.out] at hB
        go_wp2_with fail
        refine hB.mono ?_
        rintro e w' ⟨rfl, rfl⟩
        go_wp2_with fail
        refine hK.mono ?_
        rintro e w6 ⟨tv, rfl, hG, k6⟩
        have hP6 := hP.upd k6 (by simp)
        have hU6 := hU.trans_same k6
        obtain ⟨ta, tc, rfl⟩ := hG.shape
        have hs := run_string_of (P := Try.prog) (Own.rd hG) 35 5 9 Try.underlying35 Try.underlying5 Try.underlying9
        have e5 : strB ob ++ strB xs = strB ib := by rw [strB_append, Heq.out]
        have hE := pt_ended 1 hP6
        have hEv : PortM.ended ⟨2, n, [EndM.reset 0, ⟨xs, 1, 0, true, false, false⟩, EndM.reset 0], [], []⟩ 1 = false := rfl
        rw [hEv] at hE
        clear hB hK hP hU k6 hG
        go_wp2_with fail
        refine hE.mono ?_
        rintro e w' ⟨rfl, rfl⟩
        go_wp2_with fail
        go_ret
        exact ⟨rfl, hU6⟩

end Go.Proofs.Ytnbhgfnjnccakaa
