/- TopCaches: the calls that are walked by hand: a byte that is a digit is not in a set that has none; a request without fields as it is sent on. -/
import Derived.Test.YtnllmelmmcapcaaGreatDoorProg
import Derived.Test.YtnllmelmmcapcaaGreatDoorMem
import Derived.BigQuiet
import Derived.WalkLawsBesides
import Derived.WalkSpells
import Derived.WideMake
import Derived.Test.YtnllmelmmcapcaaGreatDoorEvOx
import Derived.Test.YtnllmelmmcapcaaGreatDoorTopL
namespace Go.Proofs.YtnllmelmmcapcaaGreatDoor
open Go Go.RowKit
set_option linter.unusedVariables false

theorem contains_false (blk off : Nat) (c : Int) (w : World) (h0 : 48 ≤ c) (h1 : c ≤ 57) (hc : w.cell? ⟨blk, off + c.toNat, none⟩ = some (.bool false)) : Calls Tryz.prog 143 #[.pointer (some ⟨blk, off, none⟩), .int .u8 c] w fun e w' => e = .returned (.bool false) ∧ w = w' := by
  go_enter Tryz.func143, Tryz.ntmps143
  go_wp2
  go_ret
  exact ⟨rfl, rfl⟩

/-- A map laid anew at its place. -/
def setMap (w : World) (r : Nat) (es : Array MapEntry) (c : Nat) : World := { w with heap := w.heap.setIfInBounds r (.map es c) }
theorem setMap_heap {w : World} {r : Nat} {es es' : Array MapEntry} {c c' : Nat} (h : w.heap[r]? = some (.map es c)) : (setMap w r es' c').heap[r]? = some (.map es' c') := (MapKept.heap_set h).1

theorem run_insert {w : World} {r c : Nat} {es : Array MapEntry} {s : ByteArray} {v : Value} (h : w.heap[r]? = some (.map es c)) (hf : Instr.findNow .string (.string s) es.toList 0 = some none) :
    (Instr.mapUpdate 561 (.map (some r)) (.string s) v).run Tryz.prog w = .ok () (setMap w r (es.push { key := .string s, val := v, born := c }) (c + 1)) := by
  have hm : Tryz.prog.underlying 561 = some (.map 9 4) := by kernel_rfl
  have hk : Tryz.prog.underlying 9 = some .string := by kernel_rfl
  have hc : (Instr.checkKey false 10000 9 (.string s)).run Tryz.prog w = .ok () w := MapKept.run_checkKey (k := .string s) hk (by simp [MapKept.IsKey]) false 9999
  simp [Instr.mapUpdate, run_underlying hm, MapKept.run_getObj_map h, hc, MapKept.run_findKey hk hf, MapKept.run_setObj_map _ h, Result.andThen, setMap]


theorem Upd.setMap {w w1 : World} {r c : Nat} {es : Array MapEntry} (h : Upd [] w w1) (hr : w.heap.size ≤ r) : Upd [] w (setMap w1 r es c) := by
  refine ⟨h.os, h.tape, h.output, ?_, fun k hk hn => ?_⟩
  · show w.heap.size ≤ (w1.heap.setIfInBounds r _).size
    rw [Array.size_setIfInBounds]; exact h.size
  · show (w1.heap.setIfInBounds r _)[k]? = _
    rw [Array.getElem?_setIfInBounds, if_neg (by omega)]; exact h.block k hk hn

theorem Upd.trans_low {w w1 w2 : World} (h1 : Upd [] w w1) (h2 : Upd [] w1 w2) : Upd [] w w2 := h1.trans (fun k hk => by cases hk) h2

set_option maxRecDepth 100000 in
theorem each362 (f : Value) (w : World) : Calls Tryz.prog 362 #[.slice none 0 0, f] w fun e w' => e = .returned (.slice none 0 0) ∧ w = w' := by
  go_enter Tryz.func362, Tryz.ntmps362
  go_wp2
  refine wp_loop (fun a' w' => a' = _ ∧ w' = _) (fun _ _ => 0) ⟨rfl, rfl⟩ ?_
  rintro a w' ⟨rfl, rfl⟩
  go_wp2
  go_ret
  exact ⟨rfl, rfl⟩

set_option maxRecDepth 100000 in
theorem each454 (f : Value) (w : World) : Calls Tryz.prog 454 #[.slice none 0 0, f] w fun e w' => e = .returned (.slice none 0 0) ∧ w = w' := by
  go_enter Tryz.func454, Tryz.ntmps454
  go_wp2
  refine wp_loop (fun a' w' => a' = _ ∧ w' = _) (fun _ _ => 0) ⟨rfl, rfl⟩ ?_
  rintro a w' ⟨rfl, rfl⟩
  go_wp2
  go_ret
  exact ⟨rfl, rfl⟩


def Keys (es : Array MapEntry) (ks : List ByteArray) : Prop := ∀ e ∈ es.toList, ∃ s ∈ ks, e.key = .string s

theorem findNow_none {s : ByteArray} {ks : List ByteArray} (hs : (ks.any fun k => s == k) = false) : ∀ (l : List MapEntry) (i : Nat), (∀ e ∈ l, ∃ s ∈ ks, e.key = .string s) → Instr.findNow .string (.string s) l i = some none
  | [], i, _ => rfl
  | e :: l, i, h => by
    obtain ⟨k, hk, he⟩ := h e (List.mem_cons_self ..)
    have hne : (s == k) = false := by
      rw [List.any_eq_false] at hs
      simpa using hs k hk
    simp only [Instr.findNow, he, Instr.sameNow, hne]
    exact findNow_none hs l (i + 1) fun e he => h e (List.mem_cons_of_mem _ he)

theorem run_insert' {w : World} {r c : Nat} {es : Array MapEntry} {ks : List ByteArray} (s : ByteArray) (v : Value) (h : w.heap[r]? = some (.map es c)) (hk : Keys es ks) (hs : (ks.any fun k => s == k) = false) :
    ∃ w', (Instr.mapUpdate 561 (.map (some r)) (.string s) v).run Tryz.prog w = .ok () w' ∧ (∃ es' c', w'.heap[r]? = some (.map es' c') ∧ Keys es' (s :: ks)) ∧ ∀ w0, Upd [] w0 w → w0.heap.size ≤ r → Upd [] w0 w' := by
  refine ⟨_, run_insert h (findNow_none hs _ 0 hk), ⟨_, _, setMap_heap h, fun e he => ?_⟩, fun w0 hu hr => Upd.setMap hu hr⟩
  rw [Array.toList_push, List.mem_append, List.mem_singleton] at he
  rcases he with he | rfl
  · obtain ⟨k, h1, h2⟩ := hk e he
    exact ⟨k, List.mem_cons_of_mem _ h1, h2⟩
  · exact ⟨s, List.mem_cons_self .., rfl⟩

set_option maxRecDepth 100000 in
theorem hops_nil (w : World) : Calls Tryz.prog 453 #[.slice none 0 0] w fun e w' => ∃ m, e = .returned (.map (some m)) ∧ Upd [] w w' := by
  go_enter Tryz.func453, Tryz.ntmps453
  go_wp2_with fail
  rw [run_makeMap_plain]
  simp only [Result.andThen]
  rw [Oper.upon_value]
  obtain ⟨w0, h0, k0, u0⟩ : ∃ w0, w.alloc (.map #[] 0) = w0 ∧ (∃ es c, w0.heap[w.heap.size]? = some (.map es c) ∧ Keys es []) ∧ Upd [] w w0 := ⟨_, rfl, ⟨#[], 0, (by
    show (w.heap.push _)[w.heap.size]? = _
    simp), fun e he => by simp at he⟩, (Upd.refl _ _).alloc _⟩
  rw [h0]
  obtain ⟨es0, c0, h0, k0⟩ := k0
  generalize hr : w.heap.size = r at *
  go_wp2_with fail
  obtain ⟨w1, e1, ⟨es1, c1, h1, k1⟩, v1⟩ := run_insert' ⟨#[99, 111, 110, 110, 101, 99, 116, 105, 111, 110]⟩ (.bool true) h0 k0 (by kernel_rfl)
  have u1 := v1 w u0 (by omega)
  rw [e1]
  simp only [Result.andThen]
  rw [Oper.upon_skip]
  clear e1 v1 h0 k0
  go_wp2_with fail
  obtain ⟨w2, e2, ⟨es2, c2, h2, k2⟩, v2⟩ := run_insert' ⟨#[107, 101, 101, 112, 45, 97, 108, 105, 118, 101]⟩ (.bool true) h1 k1 (by kernel_rfl)
  have u2 := v2 w u1 (by omega)
  rw [e2]
  simp only [Result.andThen]
  rw [Oper.upon_skip]
  clear e2 v2 h1 k1
  go_wp2_with fail
  obtain ⟨w3, e3, ⟨es3, c3, h3, k3⟩, v3⟩ := run_insert' ⟨#[112, 114, 111, 120, 121, 45, 97, 117, 116, 104, 101, 110, 116, 105, 99, 97, 116, 101]⟩ (.bool true) h2 k2 (by kernel_rfl)
  have u3 := v3 w u2 (by omega)
  rw [e3]
  simp only [Result.andThen]
  rw [Oper.upon_skip]
  clear e3 v3 h2 k2
  go_wp2_with fail
  obtain ⟨w4, e4, ⟨es4, c4, h4, k4⟩, v4⟩ := run_insert' ⟨#[112, 114, 111, 120, 121, 45, 97, 117, 116, 104, 111, 114, 105, 122, 97, 116, 105, 111, 110]⟩ (.bool true) h3 k3 (by kernel_rfl)
  have u4 := v4 w u3 (by omega)
  rw [e4]
  simp only [Result.andThen]
  rw [Oper.upon_skip]
  clear e4 v4 h3 k3
  go_wp2_with fail
  obtain ⟨w5, e5, ⟨es5, c5, h5, k5⟩, v5⟩ := run_insert' ⟨#[112, 114, 111, 120, 121, 45, 99, 111, 110, 110, 101, 99, 116, 105, 111, 110]⟩ (.bool true) h4 k4 (by kernel_rfl)
  have u5 := v5 w u4 (by omega)
  rw [e5]
  simp only [Result.andThen]
  rw [Oper.upon_skip]
  clear e5 v5 h4 k4
  go_wp2_with fail
  obtain ⟨w6, e6, ⟨es6, c6, h6, k6⟩, v6⟩ := run_insert' ⟨#[116, 101]⟩ (.bool true) h5 k5 (by kernel_rfl)
  have u6 := v6 w u5 (by omega)
  rw [e6]
  simp only [Result.andThen]
  rw [Oper.upon_skip]
  clear e6 v6 h5 k5
  go_wp2_with fail
  obtain ⟨w7, e7, ⟨es7, c7, h7, k7⟩, v7⟩ := run_insert' ⟨#[116, 114, 97, 105, 108, 101, 114]⟩ (.bool true) h6 k6 (by kernel_rfl)
  have u7 := v7 w u6 (by omega)
  rw [e7]
  simp only [Result.andThen]
  rw [Oper.upon_skip]
  clear e7 v7 h6 k6
  go_wp2_with fail
  obtain ⟨w8, e8, ⟨es8, c8, h8, k8⟩, v8⟩ := run_insert' ⟨#[116, 114, 97, 110, 115, 102, 101, 114, 45, 101, 110, 99, 111, 100, 105, 110, 103]⟩ (.bool true) h7 k7 (by kernel_rfl)
  have u8 := v8 w u7 (by omega)
  rw [e8]
  simp only [Result.andThen]
  rw [Oper.upon_skip]
  clear e8 v8 h7 k7
  go_wp2_with fail
  obtain ⟨w9, e9, ⟨es9, c9, h9, k9⟩, v9⟩ := run_insert' ⟨#[117, 112, 103, 114, 97, 100, 101]⟩ (.bool true) h8 k8 (by kernel_rfl)
  have u9 := v9 w u8 (by omega)
  rw [e9]
  simp only [Result.andThen]
  rw [Oper.upon_skip]
  clear e9 v9 h8 k8
  go_wp2_with fail
  refine (each362 _ _).mono ?_
  rintro e w' ⟨rfl, rfl⟩
  go_wp2
  refine wp_loop (fun a' w' => a' = _ ∧ w' = _) (fun _ _ => 0) ⟨rfl, rfl⟩ ?_
  rintro a w' ⟨rfl, rfl⟩
  go_wp2
  go_ret
  exact ⟨_, rfl, u9⟩

set_option maxRecDepth 100000 in
theorem some_nil (w : World) : Calls Tryz.prog 447 #[.slice none 0 0, .bool false] w fun e w' => e = .returned (.tuple #[.slice none 0 0, .int .i64 0]) ∧ Upd [] w w' := by
  go_enter Tryz.func447, Tryz.ntmps447
  go_wp2_with fail
  refine (hops_nil _).mono ?_
  rintro e w1 ⟨m, rfl, u1⟩
  go_wp2_with fail
  refine (each454 _ _).mono ?_
  rintro e w' ⟨rfl, rfl⟩
  go_wp2
  go_ret2
  refine ⟨rfl, ?_⟩
  have h0 : Upd [] w (w.alloc (Obj.cells #[Value.bool false] 4)) := (Upd.refl _ _).alloc _
  exact (h0.trans_low u1).alloc _

set_option maxRecDepth 100000 in
theorem keep_nil (w : World) : Calls Tryz.prog 439 #[.slice none 0 0] w fun e w' => e = .returned (.tuple #[.slice none 0 0, .int .i64 0]) ∧ Upd [] w w' := by
  go_enter Tryz.func439, Tryz.ntmps439
  go_wp2_with fail
  refine (some_nil _).mono ?_
  rintro e w1 ⟨rfl, u1⟩
  go_wp2
  go_ret2
  exact ⟨rfl, u1⟩


theorem BuilderAt_upd {T e B b : Nat} {p : Value} {bs : List Value} {w w1 : World} (h : Lib.BuilderAt T e B b p bs w) (hu : Upd [] w w1) : Lib.BuilderAt T e B b p bs w1 := by
  have key : ∀ k o, w.heap[k]? = some o → w1.heap[k]? = some o := fun k o hk => by
    rw [hu.block k (Array.getElem?_eq_some_iff.1 hk).1 (by simp)]; exact hk
  obtain ⟨hB, v, hb, ⟨hl, hown⟩, hne⟩ := h
  refine ⟨hB, v, key _ _ hb, ⟨hl, ?_⟩, hne⟩
  rcases hown with hown | ⟨g, cap, cur, h1, h2, h3, h4⟩
  · exact .inl hown
  · exact .inr ⟨g, cap, cur, h1, h2, key _ _ h3, h4⟩

theorem Upd.below_after {w w1 w2 : World} {n : Nat} (h : Upd [] w w1) (hb : Below n w1 w2) (hn : w.heap.size ≤ n) : Upd [] w w2 := by
  refine ⟨hb.os.trans h.os, hb.tape.trans h.tape, hb.output.trans h.output, Nat.le_trans h.size hb.size, fun k hk hn' => ?_⟩
  rw [hb.block k (by omega), h.block k hk hn']

def reqCells : List Value := [.string ⟨#[71, 69, 84]⟩, .int .u8 10, .int .u8 0, .int .u8 0, .int .u8 1, .string ⟨#[]⟩, .int .i64 80, .string ⟨#[47, 120]⟩, .slice none 0 0]
def sentStr : ByteArray := ⟨#[71, 69, 84, 32, 47, 120, 32, 72, 84, 84, 80, 47, 49, 46, 49, 13, 10, 72, 111, 115, 116, 58, 32, 49, 48, 46, 48, 46, 48, 46, 49, 13, 10, 67, 111, 110, 110, 101, 99, 116, 105, 111, 110, 58, 32, 99, 108, 111, 115, 101, 13, 10, 13, 10]⟩

set_option maxRecDepth 100000 in
theorem sent_req (w : World) (hP : ∀ w1, Upd [] w w1 → Calls Tryz.prog 351 #[.agg #[.int .u8 10, .int .u8 0, .int .u8 0, .int .u8 1, .string ⟨#[]⟩]] w1 fun e w' => e = .returned (.string ⟨#[49, 48, 46, 48, 46, 48, 46, 49]⟩) ∧ Upd [] w1 w')
    (hD : ∀ w1, Upd [] w w1 → Calls Tryz.prog 441 #[.slice none 0 0, .func (.func 440) #[] #[]] w1 fun e w' => e = .returned (.slice none 0 0) ∧ Upd [] w1 w') :
    Calls Tryz.prog 436 #[.agg #[.string ⟨#[71, 69, 84]⟩, .int .u8 10, .int .u8 0, .int .u8 0, .int .u8 1, .string ⟨#[]⟩, .int .i64 80, .string ⟨#[47, 120]⟩, .slice none 0 0]] w fun e w' => ∃ wX u, Upd [] w wX ∧ (convert 9 48 (.string sentStr)).run Tryz.prog wX = .ok u w' ∧ e = .returned u := by
  go_enter Tryz.func436, Tryz.ntmps436
  go_wp2_with fail
  have hb0 : Blk (w.alloc (.cells #[.string ⟨#[71, 69, 84]⟩, .int .u8 10, .int .u8 0, .int .u8 0, .int .u8 1, .string ⟨#[]⟩, .int .i64 80, .string ⟨#[47, 120]⟩, .slice none 0 0] 412)) w.heap.size 412 reqCells := by
    show (w.heap.push _)[w.heap.size]? = _
    simp [reqCells]
  have u0 : Upd [] w (w.alloc (.cells #[.string ⟨#[71, 69, 84]⟩, .int .u8 10, .int .u8 0, .int .u8 0, .int .u8 1, .string ⟨#[]⟩, .int .i64 80, .string ⟨#[47, 120]⟩, .slice none 0 0] 412)) := (Upd.refl _ _).alloc _
  refine (keep_nil _).mono ?_
  rintro e w1 ⟨rfl, u1⟩
  have hb1 := hb0.upd u1 (by simp)
  have u1 := u0.trans_low u1
  clear hb0 u0
  generalize hg : w.heap.size = g at *
  have c0 := hb1.cell (i := 0) rfl
  have c1 := hb1.cell (i := 1) rfl
  have c2 := hb1.cell (i := 2) rfl
  have c3 := hb1.cell (i := 3) rfl
  have c4 := hb1.cell (i := 4) rfl
  have c5 := hb1.cell (i := 5) rfl
  have c6 := hb1.cell (i := 6) rfl
  have c7 := hb1.cell (i := 7) rfl
  have c8 := hb1.cell (i := 8) rfl
  go_wp2_with fail
  refine (hP _ (by first | exact u1 | (rw [← hg] at *; exact u1))).mono ?_
  rintro e w2 ⟨rfl, u2⟩
  have hb2 := hb1.upd u2 (by simp)
  have u2 := u1.trans_low u2
  clear c0 c1 c2 c3 c4 c5 c6 c7 c8 hb1 u1
  have c6 := hb2.cell (i := 6) rfl
  have c7 := (hb2.alloc (.cells #[.pointer none, .slice none 0 0] 379)).cell (i := 7) rfl
  have hgl : g ≤ w2.heap.size := by rw [← hg]; exact u2.size
  have u2 := u2.alloc (.cells #[.pointer none, .slice none 0 0] 379)
  have hbk : (w2.alloc (.cells #[.pointer none, .slice none 0 0] 379)).heap[w2.heap.size]? = some (.cells #[.pointer none, .slice none 0 0] 379 (0, 0)) := by
    show (w2.heap.push _)[w2.heap.size]? = _
    simp
  go_wp2_with fail
  have HB : Lib.IsBuilder 379 5 w2.heap.size w2.heap.size [] (w2.alloc (.cells #[.pointer none, .slice none 0 0] 379)) := .inl ⟨Nat.le_refl _, _, hbk, ⟨rfl, .inl ⟨rfl, rfl⟩⟩, by simp [Value.ownBlock]⟩
  refine (Any.Builder_WriteString { Tryz.lays156 with } Tryz.Builder_Extra_156 w2.heap.size w2.heap.size [] _ _ HB (by simp [ByteArray.size]) (by simp)).mono ?_
  rintro e w3 ⟨rfl, h3, b3⟩
  go_wp2_with fail
  have hsz2 : w.heap.size ≤ w2.heap.size := by rw [hg]; exact hgl
  have u3 := u2.below_after b3 hsz2
  refine (hD _ u3).mono ?_
  rintro e w4 ⟨rfl, u4⟩
  go_wp2_with fail
  refine wp_loop (fun a' w' => a' = _ ∧ w' = _) (fun _ _ => 0) ⟨rfl, rfl⟩ ?_
  rintro a w' ⟨rfl, rfl⟩
  have h4 := BuilderAt_upd h3 u4
  have u4 := u3.trans_low u4
  rw [List.nil_append, Lib.strCells_eq] at h4
  go_wp2_with fail
  refine (Any.Builder_String { Tryz.lays156 with } Tryz.Builder_Extra_156 w2.heap.size w2.heap.size _ _ (.inr h4) (by simp)).mono ?_
  rintro e w5 ⟨rfl, b5⟩
  have u5 := u4.below_after b5 hsz2
  have hrun := run_bytes_of_string (P := Tryz.prog) w5 9 48 5 sentStr (by kernel_rfl) (by kernel_rfl) (by kernel_rfl)
  go_wp2_with fail
  rw [show ((⟨#[71, 69, 84, 32, 47, 120, 32, 72, 84, 84, 80, 47, 49, 46, 49, 13, 10, 72, 111, 115, 116, 58, 32, 49, 48, 46, 48, 46, 48, 46, 49, 13, 10, 67, 111, 110, 110, 101, 99, 116, 105, 111, 110, 58, 32, 99, 108, 111, 115, 101, 13, 10]⟩ : ByteArray) ++ ⟨#[13, 10]⟩) = sentStr from by kernel_rfl]
  rw [hrun]
  simp only [Result.andThen]
  rw [Oper.upon_value]
  go_wp2
  go_ret
  exact ⟨w5, _, u5, hrun, rfl⟩
end Go.Proofs.YtnllmelmmcapcaaGreatDoor
