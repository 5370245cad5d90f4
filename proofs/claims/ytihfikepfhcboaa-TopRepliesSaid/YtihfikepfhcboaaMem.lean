/- Rows of cells in memory, slices over them, and the small laws by which walks load, store and keep them. Conditions: each stands in its own theorem. -/
import Derived.Tactics
import Derived.Tactics2
import Derived.WalkKit
import Derived.KernelRfl
import Derived.BigQuiet
import Derived.Deep.QuietTactic
import Derived.Deep.LoopGhost
import Derived.Outline
import Derived.WalkSpells
import Derived.WalkLawsBesides
import Derived.Laws.StructEq
namespace Go.Proofs.Ytihfikepfhcboaa
open Go.RowKit

/-- The cells xs lie in block b from o on. -/
def Row (w : World) (b o : Nat) (xs : List Value) : Prop := ∀ j v, xs[j]? = some v → w.cell? ⟨b, o + j, none⟩ = some v

theorem add_lit (b o j : Nat) : (⟨b, o, none⟩ : Addr).add j = ⟨b, o + j, none⟩ := by
  unfold Addr.add; split <;> simp_all

theorem bcell {B : Nat} {W w1 : World} (hb : Below B W w1) : (∀ b o, b < B → w1.cell? ⟨b, o, none⟩ = W.cell? ⟨b, o, none⟩) ∧ (∀ b o, b < B → w1.frozen? ⟨b, o, none⟩ = W.frozen? ⟨b, o, none⟩) :=
  ⟨fun b o h => hb.cell (p := ⟨b, o, none⟩) h, fun b o h => hb.frozen (p := ⟨b, o, none⟩) h⟩

theorem Row.of_same {w w' : World} {b o : Nat} {xs : List Value} (h : Row w b o xs) (hs : w'.heap[b]? = w.heap[b]?) : Row w' b o xs :=
  fun j v hv => (World.cell?_of_block (w := w) (a := ⟨b, o + j, none⟩) hs).trans (h j v hv)

theorem Row.below {B : Nat} {w w' : World} {b o : Nat} {xs : List Value} (h : Row w b o xs) (hb : Below B w w') (hB : b < B) : Row w' b o xs :=
  h.of_same (hb.block b hB)

theorem Row.at {w : World} {b o : Nat} {xs : List Value} (h : Row w b o xs) (j : Nat) (hj : j < xs.length) : w.cell? ⟨b, o + j, none⟩ = some xs[j] :=
  h j _ (by simp [hj])

theorem Row.append {w : World} {b o : Nat} {xs ys : List Value} : Row w b o (xs ++ ys) ↔ Row w b o xs ∧ Row w b (o + xs.length) ys := by
  constructor
  · intro h
    refine ⟨fun j v hv => h j v ?_, fun j v hv => ?_⟩
    · rw [List.getElem?_append_left (by have := (List.getElem?_eq_some_iff.1 hv).1; omega)]; exact hv
    · have := h (xs.length + j) v (by rw [List.getElem?_append_right (by omega)]; simpa using hv)
      rw [Nat.add_assoc]; exact this
  · rintro ⟨h1, h2⟩ j v hv
    by_cases hj : j < xs.length
    · rw [List.getElem?_append_left hj] at hv; exact h1 j v hv
    · rw [List.getElem?_append_right (by omega)] at hv
      have := h2 (j - xs.length) v hv
      rw [show o + j = o + xs.length + (j - xs.length) by omega]; exact this

/-- Rows of elements of sz cells each. -/
theorem Row.elem {w : World} {b o sz : Nat} {es : List (List Value)} (hsz : ∀ e ∈ es, e.length = sz) (h : Row w b o es.flatten) (i : Nat) (hi : i < es.length) : Row w b (o + i * sz) es[i] := by
  induction es generalizing o i with
  | nil => simp at hi
  | cons e es ih =>
    rw [List.flatten_cons, Row.append] at h
    have he : e.length = sz := hsz e (by simp)
    cases i with
    | zero => simpa using h.1
    | succ i =>
      have := ih (fun e he => hsz e (by simp [he])) h.2 i (by simpa using hi)
      rw [he] at this
      have e2 : o + sz + i * sz = o + (i + 1) * sz := by rw [Nat.add_mul]; omega
      rw [e2] at this
      simpa using this

theorem flatten_length {sz : Nat} {es : List (List Value)} (hsz : ∀ e ∈ es, e.length = sz) : es.flatten.length = es.length * sz := by
  induction es with
  | nil => simp
  | cons e es ih =>
    rw [List.flatten_cons, List.length_append, ih (fun e he => hsz e (by simp [he])), hsz e (by simp), List.length_cons, Nat.add_mul]; omega

theorem Row.run_load {P : Program} {w : World} {b o : Nat} {xs : List Value} (h : Row w b o xs) (ty : TypeId) (hagg : ∀ w, (isAgg ty).run P w = .ok true w) (hsz : ∀ w, (sizeOf ty).run P w = .ok xs.length w) :
    (loadVar ty ⟨b, o, none⟩).run P w = .ok (.agg xs.toArray) w := by
  have hl := run_loadCells_list (P := P) w ⟨b, o, none⟩ xs (fun j v hv => by rw [add_lit]; exact h j v hv)
  simp [loadVar, Sem.run_bind, hagg, hsz, hl]

/-- A slice that can be read: n elements of sz cells each, all of them xs. -/
def SlOf (w : World) (sz : Nat) (v : Value) (n : Nat) (xs : List Value) : Prop :=
  (v = .slice none 0 0 ∧ n = 0 ∧ xs = []) ∨
  ∃ b o cap, v = .slice (some ⟨b, o, none⟩) n cap ∧ n ≤ cap ∧ cap ≤ maxLen ∧ b < w.heap.size ∧ xs.length = n * sz ∧ Row w b o xs

theorem SlOf.below {w w' : World} {sz : Nat} {v : Value} {n : Nat} {xs : List Value} (h : SlOf w sz v n xs) (hb : Below w.heap.size w w') : SlOf w' sz v n xs := by
  rcases h with h | ⟨b, o, cap, h1, h2, h3, h4, h5, h6⟩
  · exact .inl h
  · exact .inr ⟨b, o, cap, h1, h2, h3, Nat.lt_of_lt_of_le h4 hb.size, h5, h6.below hb h4⟩

theorem SlOf.same {w w' : World} {sz : Nat} {v : Value} {n : Nat} {xs : List Value} (h : SlOf w sz v n xs) (hs : w.heap.size ≤ w'.heap.size) (hb : ∀ k, v.ownBlock = some k → w'.heap[k]? = w.heap[k]?) : SlOf w' sz v n xs := by
  rcases h with h | ⟨b, o, cap, rfl, h2, h3, h4, h5, h6⟩
  · exact .inl h
  · exact .inr ⟨b, o, cap, rfl, h2, h3, Nat.lt_of_lt_of_le h4 hs, h5, h6.of_same (hb b rfl)⟩

theorem SlOf.length {w : World} {sz : Nat} {v : Value} {n : Nat} {xs : List Value} (h : SlOf w sz v n xs) : xs.length = n * sz := by
  rcases h with ⟨_, rfl, rfl⟩ | ⟨b, o, cap, h1, h2, h3, h4, h5, h6⟩
  · simp
  · exact h5

theorem SlOf.owns {w : World} {base : Nat} {e : TypeId} {sz : Nat} {v : Value} {n : Nat} {xs : List Value} (h : w.ownsRow base e sz v n xs) : SlOf w sz v n xs := by
  obtain ⟨h1, h2⟩ := h
  rcases h2 with ⟨rfl, rfl⟩ | ⟨g, cap, cur, rfl, hg, hh, hn, hc, hs, ht⟩
  · exact .inl ⟨rfl, rfl, by simpa using h1⟩
  · refine .inr ⟨g, 0, cap, rfl, hn, hc, (Array.getElem?_eq_some_iff.1 hh).1, h1, fun j v hv => ?_⟩
    rw [cell_of_row w g _ cur e (0, 0) hh]
    rw [← ht, List.getElem?_take] at hv
    split at hv
    · simpa using hv
    · cases hv

section
variable {P : Program} {ops : Array Oper} {Q : Exit → Act → World → Prop} {rest : List Oper} {a : Act} {w : World}
/-- The operation that writes slot k stands next (a guard for the laws below). -/
theorem wpList_dst (k : Nat) {op : Op} {ty : TypeId} {pos : String} {af : Array Edge} {g : Option (Nat × Bool)} (h : wpList P ops Q (⟨some k, op, ty, pos, af, g⟩ :: rest) a w) : wpList P ops Q (⟨some k, op, ty, pos, af, g⟩ :: rest) a w := h

theorem wpList_law {o : Oper} (hw : Region.wanted o (yielded ops a.tmps) = true) (h : ∀ K : Act → World → Prop, (∀ a w, wpList P ops Q rest a w → K a w) → o.wp P a w K Q) : wpList P ops Q (o :: rest) a w :=
  wpList_step fun K hK => by rw [if_pos hw]; exact h K hK

theorem wp_loadRow {o : Oper} {K : Act → World → Prop} (ty : TypeId) (x : Operand) (ho : o.op = .load ty x) {b off : Nat} (hx : a.eval x = .pointer (some ⟨b, off, none⟩))
    {xs : List Value} (hr : Row w b off xs) (hagg : ∀ w, (isAgg ty).run P w = .ok true w) (hsz : ∀ w, (sizeOf ty).run P w = .ok xs.length w) (h : K (a.put o.dst (.agg xs.toArray)) w) : o.wp P a w K Q := by
  unfold Oper.wp execOp
  simp only [ho, hx, Instr.loadAt, Instr.sureAddr, Sem.run_bind, Sem.run_pure, Result.andThen_ok, hr.run_load ty hagg hsz]
  exact h

/-- A struct is read out of a row. -/
theorem wpList_loadRow {o : Oper} (ty : TypeId) (x : Operand) (ho : o.op = .load ty x) (hw : Region.wanted o (yielded ops a.tmps) = true) {b off : Nat} (hx : a.eval x = .pointer (some ⟨b, off, none⟩))
    {xs : List Value} (hr : Row w b off xs) (hagg : ∀ w, (isAgg ty).run P w = .ok true w) (hsz : ∀ w, (sizeOf ty).run P w = .ok xs.length w) (h : wpList P ops Q rest (a.put o.dst (.agg xs.toArray)) w) : wpList P ops Q (o :: rest) a w :=
  wpList_law hw fun _ hK => wp_loadRow ty x ho hx hr hagg hsz (hK _ _ h)
end
end Go.Proofs.Ytihfikepfhcboaa
