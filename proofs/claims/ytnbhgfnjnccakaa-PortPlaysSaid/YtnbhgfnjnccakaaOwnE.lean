/- An owned slice, or an empty one that points behind its block's end: its laws, and append's. -/
import Derived.Test.YtnbhgfnjnccakaaMem
namespace Go.Proofs.Ytnbhgfnjnccakaa
open Go Go.RowKit
set_option linter.unusedVariables false

def OwnE (w : World) (base e size : Nat) (v : Value) (n : Nat) (xs : List Value) : Prop :=
  Own w base e size v n xs ∨ (n = 0 ∧ xs = [] ∧ ∃ g off, v = .slice (some ⟨g, off, none⟩) 0 0 ∧ base ≤ g ∧ g < w.heap.size)

section
variable {w w1 : World} {base e size n : Nat} {v : Value} {xs : List Value}
theorem ownE_nil (w : World) (base e size : Nat) : OwnE w base e size (.slice none 0 0) 0 [] := Or.inl (own_nil _ _ _ _)
theorem OwnE.upd {F : List Nat} (h : OwnE w base e size v n xs) (hu : Upd F w w1) (hv : ∀ g, v.ownBlock = some g → g ∉ F) : OwnE w1 base e size v n xs := by
  rcases h with h | ⟨h1, h2, g, off, h3, h4, h5⟩
  · exact Or.inl (h.upd hu hv)
  · exact Or.inr ⟨h1, h2, g, off, h3, h4, Nat.lt_of_lt_of_le h5 hu.size⟩
theorem OwnE.lt (h : OwnE w base e size v n xs) : ∀ g, v.ownBlock = some g → base ≤ g ∧ g < w.heap.size := by
  rcases h with h | ⟨h1, h2, g, off, rfl, h4, h5⟩
  · exact h.lt
  · intro q hq
    cases hq
    exact ⟨h4, h5⟩
theorem OwnE.mono {base' : Nat} (h : OwnE w base e size v n xs) (hb : base' ≤ base) : OwnE w base' e size v n xs := by
  rcases h with h | ⟨h1, h2, g, off, h3, h4, h5⟩
  · exact Or.inl (h.mono hb)
  · exact Or.inr ⟨h1, h2, g, off, h3, Nat.le_trans hb h4, h5⟩
theorem OwnE.shape (h : OwnE w base e size v n xs) : ∃ ao cap, v = .slice ao n cap := by
  rcases h with h | ⟨rfl, h2, g, off, h3, h4, h5⟩
  · exact h.shape
  · exact ⟨_, _, h3⟩
theorem OwnE.len (h : OwnE w base e size v n xs) : xs.length = n * size := by
  rcases h with h | ⟨rfl, rfl, _⟩
  · exact h.1
  · simp
end

theorem wp_append_genE {P : Program} {w : World} {o : Oper} {a : Act} {K : Act → World → Prop} {Q : Exit → Act → World → Prop} (s x : Operand) (t tx : TypeId)
    (ho : o.op = .call { callee := .builtin .append, args := #[s, x], argTypes := #[t, tx] })
    (e : TypeId) (z : Value) (size bytes : Nat) (ht : P.underlying t = some (.slice e)) (hinfo : (P.info? e).map (fun i => (i.zero, i.size, i.bytes)) = some (some z, size, bytes)) (hzs : z.cells.size = size)
    (base : Nat) (hbase : base ≤ w.heap.size) (v : Value) (n : Nat) (xs : List Value) (hs : a.eval s = v) (hown : OwnE w base e size v n xs)
    (y : Value) (m : Nat) (news : List Value) (hx : a.eval x = y) (hsrc : Src P size tx y m news w)
    (h63 : n + m ≤ maxLen) (hbytes : (n + m) * bytes ≤ 140737488355328) (hm : 1 ≤ m)
    (h : ∀ v' w', Own w' base e size v' (n + m) (xs ++ news) → Upd v.ownBlock.toList w w' → (∀ g, v'.ownBlock = some g → v.ownBlock = some g ∨ w.heap.size ≤ g) → K (a.put o.dst v') w') :
    o.wp P a w K Q := by
  rcases hown with hown | ⟨rfl, rfl, g, off, rfl, hb, hg⟩
  · exact wp_append_gen s x t tx ho e z size bytes ht hinfo hzs base hbase v n xs hs hown y m news hx hsrc h63 hbytes (fun v' w' h1 h2 h3 _ _ => h v' w' h1 h2 h3)
  · obtain ⟨i, hi, hzz⟩ := Option.map_eq_some_iff.1 hinfo
    simp only [Prod.mk.injEq] at hzz
    obtain ⟨hz, rfl, rfl⟩ := hzz
    have key : ∀ v' w', (Builtin.append_ #[t, tx] o.type #[.slice (some ⟨g, off, none⟩) 0 0, y]).run P w = .ok v' w' → K (a.put o.dst v') w' → o.wp P a w K Q := by
      intro v' w' hr hn
      unfold Oper.wp execOp
      simp only [ho, resolve, invoke, builtin, Sem.run_bind, Sem.run_pure, Result.andThen_ok, List.map_toArray, List.map_cons, List.map_nil, hs, hx, hr]
      exact hn
    have hlen : (([] : List Value) ++ news).length = (0 + m) * i.size := by rw [List.nil_append, hsrc.newsLen, Nat.zero_add]
    have h63' : ((0 + m : Nat) : Int) ≤ 9223372036854775807 := by simp only [maxLen] at h63; omega
    have hold : (Builtin.firstCells i.size 0 (.slice (some ⟨g, off, none⟩) 0 0)).run P w.drew = .ok ([] : List Value).toArray w.drew := run_firstCells_some w.drew i.size 0 ⟨g, off, none⟩ 0 0 [] (by simp) (fun j u hj => by simp at hj)
    have hr := run_append_grow_src (P := P) w t tx o.type e i z ht hi hz (some ⟨g, off, none⟩) 0 0 [] hold y m news hsrc (by omega) h63' (growslice_fits (by omega) hbytes)
    refine key _ _ hr (h _ _ ⟨hlen, Or.inr ⟨w.heap.size, 0, _, [], (Builtin.zeroCells z.cells (grownCap w (0 + m) 0 e - (0 + m))).toList, rfl, hbase, ?_, rfl, ?_, grownCap_ge w (0 + m) 0 e, grownCap_le_maxLen w (0 + m) 0 e h63⟩⟩ ((Upd.refl _ _).drew.alloc _) (fun g hg => Or.inr (by cases hg; exact Nat.le_refl _)))
    · have e1 : ((([] : List Value) ++ news).toArray ++ Builtin.zeroCells z.cells (grownCap w (0 + m) 0 e - (0 + m))) = ([] ++ (([] : List Value) ++ news ++ (Builtin.zeroCells z.cells (grownCap w (0 + m) 0 e - (0 + m))).toList)).toArray := by
        apply Array.ext'; simp
      rw [e1]
      exact blk_new w.drew e _
    · rw [Array.length_toList, size_zeroCells, hzs]

end Go.Proofs.Ytnbhgfnjnccakaa
