/- The walk of the law's play (written by gen_play.py). -/
import Derived.Test.YtnbhgfnjnccakaaPP5
import Derived.Test.YtnbhgfnjnccakaaBase0
import Derived.Deep.DeepCutAuto
import Derived.Deep.CutBlock
import Derived.Deep.RegionWith
namespace Go.Proofs.Ytnbhgfnjnccakaa
open Go Go.RowKit
set_option linter.unusedVariables false

def actV (dn kd en nn : Int) (bs : List UInt8) (qa : Option Addr) (ql qc : Nat) (d : DestM) : Value := .agg #[.int .i64 dn, .int .i64 kd, .int .i64 en, .int .i64 nn, .string (strB bs), .slice qa ql qc, .int .u8 d.a, .int .u8 d.b, .int .u8 d.c, .int .u8 d.d, .string d.name, .int .i64 d.port]

set_option maxHeartbeats 40000000 in
set_option maxRecDepth 100000 in
theorem play_post {w0 w : World} {b c : Nat} {l : PLay} {L : XLay} {p : PortM} (T : Two w0 w b l p c L p) (hbx : ∀ x, x ∈ p.box → x.length ≤ 512) (ho : p.outs.length < 1900000000000) (dn kd en nn : Int) (bs : List UInt8) (hbs : bs.length ≤ 140737488355328) (qa : Option Addr) (ql qc : Nat) (d : DestM) (hdn : among dn 14 = 12) :
    Calls Try.prog 32 #[.pointer (some ⟨b, 0, none⟩), .pointer (some ⟨c, 0, none⟩), actV dn kd en nn bs qa ql qc d] w (PlayPost w0 w b c l L p) := by
  unfold actV
  have kA : Upd [] w (w.alloc (.cells #[.int .i64 dn, .int .i64 kd, .int .i64 en, .int .i64 nn, .string (strB bs), .slice qa ql qc, .int .u8 d.a, .int .u8 d.b, .int .u8 d.c, .int .u8 d.d, .string d.name, .int .i64 d.port] 66)) := (Upd.refl _ _).alloc _
  have hA2 := blk_new' w 66 #[.int .i64 dn, .int .i64 kd, .int .i64 en, .int .i64 nn, .string (strB bs), .slice qa ql qc, .int .u8 d.a, .int .u8 d.b, .int .u8 d.c, .int .u8 d.d, .string d.name, .int .i64 d.port]
  have T2 := T.up kA
  have G2 : Went w l L _ l L := Went.refl.up kA
  have nA := T.P.fresh (q := w.heap.size) (Nat.le_refl _)
  have nA' := T.Y.fresh (q := w.heap.size) (Nat.le_refl _)
  have G0 := T.U
  go_enter Try.func32, Try.ntmps32
  go_wp2_with fail
  clear kA T
  generalize hA : w.heap.size = A at *
  generalize w.alloc (.cells #[.int .i64 dn, .int .i64 kd, .int .i64 en, .int .i64 nn, .string (strB bs), .slice qa ql qc, .int .u8 d.a, .int .u8 d.b, .int .u8 d.c, .int .u8 d.d, .string d.name, .int .i64 d.port] 66) = w6 at *
  have a0' := hA2.cell (i := 0) rfl
  have a1' := hA2.cell (i := 1) rfl
  have a2' := hA2.cell (i := 2) rfl
  have a3' := hA2.cell (i := 3) rfl
  have a4' := hA2.cell (i := 4) rfl
  have a5' := hA2.cell (i := 5) rfl
  have a6' := hA2.cell (i := 6) rfl
  have a7' := hA2.cell (i := 7) rfl
  have a8' := hA2.cell (i := 8) rfl
  have a9' := hA2.cell (i := 9) rfl
  have a10' := hA2.cell (i := 10) rfl
  have a11' := hA2.cell (i := 11) rfl
  refine (among_any dn 14 _ (by decide) (by decide)).mono ?_
  rintro e w' ⟨rfl, rfl⟩
  rw [hdn]
  clear hdn hbx
  have hd : Upd [] w6 w6.drew := (Upd.refl _ _).drew
  have T3 := T2.up hd
  have G3 := G2.up hd
  have x3 : w6.drew.cell? ⟨A, 4, none⟩ = some (.string (strB bs)) := (hA2.upd hd (by simp)).cell (i := 4) rfl
  have hAl := hA2.lt
  have hk := kept_posted (p := p) bs
  have hpp0 : ∃ p', p' = p.posted bs := ⟨_, rfl⟩
  obtain ⟨p', hpp⟩ := hpp0
  have hpp1 : ∃ sa, sa = postE bs := ⟨_, rfl⟩
  obtain ⟨sa, hsa⟩ := hpp1
  rw [← hpp] at hk
  clear a0' a1' a2' a3' a4' a5' a6' a7' a8' a9' a10' a11'
  go_wp2_with fail
  clear hd T2 hA2 G2
  obtain ⟨cvf, hch1⟩ := Classical.skolem.1 (fun W : World => conv_bytes W bs hbs)
  obtain ⟨wf, hch2⟩ := Classical.skolem.1 hch1
  have hcvf := fun W => (hch2 W).1
  have hrdf := fun W => (hch2 W).2.1
  have hkuf := fun W => (hch2 W).2.2
  clear hch1 hch2
  have hcell : ∀ W : World, W.cell? ⟨A, 4, none⟩ = some (.string (strB bs)) → (wf W).cell? ⟨A, 4, none⟩ = some (.string (strB bs)) := fun W h => by rw [(hkuf W).cell (World.block_lt_of_cell? _ _ h) (by simp)]; exact h
  have x4 := hcell _ x3
  have x5 := hcell _ x4
  have hnil : ∀ v : Value, ∀ q, v.ownBlock = some q → q ∉ ([] : List Nat) := fun v q _ h => by cases h
  have fl : ∀ q, w6.heap.size ≤ q → q ∉ l.foot := fun q hq => T3.P.fresh hq
  have fL : ∀ q, w6.heap.size ≤ q → q ∉ L.foot := fun q hq => T3.Y.fresh hq
  have hPP : ∀ U v, Upd [] w6.drew U → Rd U v bs → Calls Try.prog 49 #[.pointer (some ⟨b, 0, none⟩), v] U (fun e w' => e = .returned (.int .i64 (sa : Nat)) ∧ ∃ l5, Two w0 w' b l5 p' c L p ∧ Went w l L w' l5 L ∧ (∀ v', Rd U v' bs → (∀ q, v'.ownBlock = some q → w6.heap.size ≤ q) → Rd w' v' bs) ∧ w'.cell? ⟨A, 4, none⟩ = some (.string (strB bs)) ∧ (wf w').cell? ⟨A, 4, none⟩ = some (.string (strB bs))) := fun U v hu hrd => by
    refine (pt_post (T3.up hu).P hrd ho).mono ?_
    rintro e w' ⟨rfl, hp⟩
    obtain ⟨l5, T5, hu5, hW5⟩ := (T3.up hu).port hp
    have hc5 : w'.cell? ⟨A, 4, none⟩ = some (.string (strB bs)) := by
      rw [hu5.cell (World.block_lt_of_cell? _ _ (show U.cell? ⟨A, 4, none⟩ = some (.string (strB bs)) by rw [hu.cell (World.block_lt_of_cell? _ _ x3) (by simp)]; exact x3)) nA, hu.cell (World.block_lt_of_cell? _ _ x3) (by simp)]
      exact x3
    exact ⟨by rw [hsa], l5, by rw [hpp]; exact T5, (G3.up hu).port hu5 hW5, fun v' h1 h2 => h1.upd hu5 (fun q hq => fl q (h2 q hq)), hc5, hcell _ hc5⟩
  have hRR : ∀ U v l5, Two w0 U b l5 p' c L p → Went w l L U l5 L → Rd U v bs → (∀ q, v.ownBlock = some q → q ∉ L.foot) → Calls Try.prog 73 #[.pointer (some ⟨c, 0, none⟩), v] U (fun e w' => e = .returned (.int .i64 (sa : Nat)) ∧ ∃ L7, Two w0 w' b l5 p' c L7 p' ∧ Went w l L w' l5 L7) := fun U v l5 T G hrd hv => by
    refine (rp_post T.Y hrd hv ho).mono ?_
    rintro e w' ⟨rfl, hp⟩
    obtain ⟨L7, T7, hu7, hW7⟩ := T.ref hp
    exact ⟨by rw [hsa], L7, by rw [hpp] at T7 ⊢; exact T7, G.ref hu7 hW7⟩
  have hz4 : w6.heap.size ≤ (wf w6.drew).heap.size := (hkuf w6.drew).size
  have hz5 : (wf w6.drew).heap.size ≤ (wf (wf w6.drew)).heap.size := (hkuf (wf w6.drew)).size
  clear hpp hsa hcell T3 G3
  go_region_with (first
    | (go_at_call 49
       refine (hPP _ _ ?_ ?_).mono ?_
       · first | exact hkuf w6.drew | exact (hkuf w6.drew).trans_same (hkuf (wf w6.drew))
       · first | exact hrdf w6.drew | exact hrdf (wf w6.drew) | exact (hrdf w6.drew).upd (hkuf (wf w6.drew)) (hnil _)
       rintro e w5 ⟨rfl, l5, T5, G5, hr5, x6, x7⟩)
    | (go_at_call 73
       refine (hRR _ _ l5 ?_ ?_ ?_ ?_).mono ?_
       · first | exact T5 | exact T5.up (hkuf w5)
       · first | exact G5 | exact G5.up (hkuf w5)
       · first
           | exact hrdf w5
           | exact hr5 _ (hrdf (wf w6.drew)) (fun q hq => by cases hq; exact hz4)
           | exact hr5 _ ((hrdf w6.drew).upd (hkuf (wf w6.drew)) (hnil _)) (fun q hq => by cases hq; exact Nat.le_refl _)
       · intro q hq
         cases hq
         first
           | exact T5.Y.fresh (Nat.le_refl _)
           | exact fL _ (Nat.le_refl _)
           | exact fL _ hz4
       rintro e w7 ⟨rfl, L7, T7, G7⟩))
  all_goals
    go_wp2_with fail
    go_ret
    exact ⟨rfl, l5, L7, p', T7, hk, G7⟩

end Go.Proofs.Ytnbhgfnjnccakaa
