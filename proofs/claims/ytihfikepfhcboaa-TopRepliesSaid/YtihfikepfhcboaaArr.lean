/- Arrays in blocks; replies.New; what cached31's memory holds. Conditions: each stands in its own theorem. -/
import Derived.Test.YtihfikepfhcboaaLaw2
import Derived.Test.YtihfikepfhcboaaPut2
namespace Go.Proofs.Ytihfikepfhcboaa
open Go.RowKit

def fnList (n : Nat) (f : Nat → Value) : List Value := (List.range n).map f
theorem fnList_length (n : Nat) (f : Nat → Value) : (fnList n f).length = n := by simp [fnList]
theorem fnList_get (n : Nat) (f : Nat → Value) (i : Nat) (h : i < n) : (fnList n f)[i]? = some (f i) := by simp [fnList, h]
theorem fnList_set (n : Nat) (f : Nat → Value) (i : Nat) (v : Value) : (fnList n f).set i v = fnList n (upd f i v) := by
  apply List.ext_getElem?
  intro j
  simp only [List.getElem?_set, fnList, List.length_map, List.length_range, List.getElem?_map]
  by_cases h : i = j
  · subst h
    by_cases hi : i < n
    · simp [hi, upd]
    · simp [hi, List.getElem?_eq_none]
  · rw [if_neg h]
    by_cases hj : j < n
    · simp [hj, upd, show ¬ j = i from fun e => h e.symm]
    · simp [List.getElem?_eq_none, hj]
/-- Rows of 13 cells, 17 of them. -/
def arr2 (F : Nat → Nat → Value) : List Value := fnList 221 (fun i => F (i / 13) (i % 13))
theorem arr2_get (F : Nat → Nat → Value) (c x : Nat) (hc : c < 17) (hx : x < 13) : (arr2 F)[c * 13 + x]? = some (F c x) := by
  unfold arr2
  rw [fnList_get _ _ _ (by omega)]
  rw [show (c * 13 + x) / 13 = c by omega, show (c * 13 + x) % 13 = x by omega]
theorem arr2_set (F : Nat → Nat → Value) (c x : Nat) (hx : x < 13) (v : Value) : (arr2 F).set (c * 13 + x) v = arr2 (upd2 F c x v) := by
  unfold arr2
  rw [fnList_set]
  congr 1
  funext i
  unfold upd upd2
  by_cases h : i = c * 13 + x
  · subst h
    rw [if_pos rfl, show (c * 13 + x) / 13 = c by omega, show (c * 13 + x) % 13 = x by omega]
    simp
  · rw [if_neg h, if_neg (by omega)]
theorem upd2_map {α β : Type} (g : α → β) (f : Nat → Nat → α) (c x : Nat) (v : α) : upd2 (fun a b => g (f a b)) c x (g v) = fun a b => g (upd2 f c x v a b) := by
  funext a b; unfold upd2; split <;> rfl
theorem upd_map {α β : Type} (g : α → β) (f : Nat → α) (c : Nat) (v : α) : upd (fun a => g (f a)) c (g v) = fun a => g (upd f c v a) := by
  funext a; unfold upd; split <;> rfl

def thereA (s : St) : List Value := arr2 fun c x => .bool (s.there c x)
def keptA (s : St) : List Value := arr2 fun c x => .bool (s.kept c x)
def sizeA (s : St) : List Value := arr2 fun c x => .int .i64 (s.size c x)
def goneA (s : St) : List Value := fnList 17 fun c => .int .i64 (s.gone c)

/-- cached31's memory: the cache in block B, the arrays in the next four. -/
structure CState (w : World) (B win : Nat) (s : St) (ks : List Kep) (v : Value) (W : World) : Prop where
  below : Below w.heap.size w W
  b0 : w.heap.size ≤ B
  c : W.heap[B]? = some (.cells #[.int .i64 win, v] 39 (0, 0))
  there : W.heap[B + 1]? = some (.cells (thereA s).toArray 53 (0, 0))
  kept : W.heap[B + 2]? = some (.cells (keptA s).toArray 53 (0, 0))
  size : W.heap[B + 3]? = some (.cells (sizeA s).toArray 55 (0, 0))
  gone : W.heap[B + 4]? = some (.cells (goneA s).toArray 56 (0, 0))
  own : ∃ qs, OwnCache W (B + 5) v qs ∧ qs.map (·.1) = ks
theorem CState.lt {w : World} {B win : Nat} {s : St} {ks : List Kep} {v : Value} {W : World} (h : CState w B win s ks v W) : B + 4 < W.heap.size := (Array.getElem?_eq_some_iff.1 h.gone).1
theorem CState.step {w : World} {B win : Nat} {s : St} {ks : List Kep} {v : Value} {W W' : World} (h : CState w B win s ks v W) (hb : Below W.heap.size W W') : CState w B win s ks v W' := by
  have hl := h.lt
  have h0 := h.b0
  refine ⟨h.below.trans (hb.mono (by omega)), h0, by rw [hb.block _ (by omega)]; exact h.c, by rw [hb.block _ (by omega)]; exact h.there, by rw [hb.block _ (by omega)]; exact h.kept, by rw [hb.block _ (by omega)]; exact h.size, by rw [hb.block _ (by omega)]; exact h.gone, ?_⟩
  obtain ⟨qs, h1, h2⟩ := h.own
  exact ⟨qs, h1.same2 fun k _ hk => hb.block k hk, h2⟩
theorem CState.cells {w : World} {B win : Nat} {s : St} {ks : List Kep} {v : Value} {W : World} (h : CState w B win s ks v W) :
    (∀ j, W.cell? ⟨B, j, none⟩ = [.int .i64 win, v][j]?) ∧ (∀ c x, c < 17 → x < 13 → W.cell? ⟨B + 1, c * 13 + x, none⟩ = some (.bool (s.there c x))) ∧ (∀ c x, c < 17 → x < 13 → W.cell? ⟨B + 2, c * 13 + x, none⟩ = some (.bool (s.kept c x))) ∧
    (∀ c x, c < 17 → x < 13 → W.cell? ⟨B + 3, c * 13 + x, none⟩ = some (.int .i64 (s.size c x))) ∧ (∀ c, c < 17 → W.cell? ⟨B + 4, c, none⟩ = some (.int .i64 (s.gone c))) :=
  ⟨blk_cells (cs := [_, _]) h.c, fun c x hc hx => by rw [blk_cells h.there]; exact arr2_get _ c x hc hx, fun c x hc hx => by rw [blk_cells h.kept]; exact arr2_get _ c x hc hx, fun c x hc hx => by rw [blk_cells h.size]; exact arr2_get _ c x hc hx, fun c hc => by rw [blk_cells h.gone]; exact fnList_get _ _ c hc⟩

theorem Try.zero53 (w : World) : (zeroValue 53).run Try.prog w = .ok (.agg (arr2 fun _ _ => .bool false).toArray) w := by kernel_rfl
theorem Try.zero55 (w : World) : (zeroValue 55).run Try.prog w = .ok (.agg (arr2 fun _ _ => .int .i64 0).toArray) w := by kernel_rfl
theorem Try.zero56 (w : World) : (zeroValue 56).run Try.prog w = .ok (.agg (fnList 17 fun _ => .int .i64 0).toArray) w := by kernel_rfl

theorem new9 (win : Int) (w : World) (h0 : 1 ≤ win) (h1 : win ≤ 100) :
    Calls Try.prog 9 #[.int .i64 win] w fun e w' => e = .returned (.tuple #[.agg #[.int .i64 win, .slice none 0 0], .int .i64 0]) ∧ Below w.heap.size w w' := by
  go_enter Try.func9, Try.ntmps9
  go_wp2
  exact bodyPost_ret (v := .tuple #[.agg #[.int .i64 win, .slice none 0 0], .int .i64 0]) (by simp [results, Try.results9, go_sem]) rfl ⟨rfl, by
    repeat (first | (refine Below.setCell ?_ (by simp) _) | (refine Below.alloc ?_ (by simp; try omega) _) | refine Below.drew ?_)
    exact Below.refl _ _⟩
theorem new9_bad (win : Int) (w : World) (h : win < 1 ∨ 100 < win) :
    Calls Try.prog 9 #[.int .i64 win] w fun e w' => e = .returned (.tuple #[.agg #[.int .i64 0, .slice none 0 0], .int .i64 2]) ∧ Below w.heap.size w w' := by
  by_cases h1 : win < 1
  · clear h
    go_enter Try.func9, Try.ntmps9
    go_wp2
    exact bodyPost_ret (v := .tuple #[.agg #[.int .i64 0, .slice none 0 0], .int .i64 2]) (by simp [results, Try.results9, go_sem]) rfl ⟨rfl, by
      repeat (first | (refine Below.setCell ?_ (by simp) _) | (refine Below.alloc ?_ (by simp; try omega) _) | refine Below.drew ?_)
      exact Below.refl _ _⟩
  · have h2 : 100 < win := by omega
    clear h
    go_enter Try.func9, Try.ntmps9
    go_wp2
    exact bodyPost_ret (v := .tuple #[.agg #[.int .i64 0, .slice none 0 0], .int .i64 2]) (by simp [results, Try.results9, go_sem]) rfl ⟨rfl, by
      repeat (first | (refine Below.setCell ?_ (by simp) _) | (refine Below.alloc ?_ (by simp; try omega) _) | refine Below.drew ?_)
      exact Below.refl _ _⟩

section
variable {P : Program} {ops : Array Oper} {Q : Exit → Act → World → Prop} {rest : List Oper} {a : Act} {w : World}
/-- A variable is laid. -/
theorem wpList_allocZ {o : Oper} (ty : TypeId) (ho : o.op = .alloc ty) (hw : Region.wanted o (yielded ops a.tmps) = true) {z : Value} (hz : ∀ w, (zeroValue ty).run P w = .ok z w)
    (h : wpList P ops Q rest (a.put o.dst (.pointer (some ⟨w.heap.size, 0, none⟩))) (w.alloc (.cells z.cells ty))) : wpList P ops Q (o :: rest) a w :=
  wpList_law hw fun K hK => by
    unfold Oper.wp execOp
    simp [ho, hz, newVar, newRow, newObj, Sem.run, go_sem]
    exact hK _ _ h
end

/-- What Put answers, by the arrays. -/
def PutStep (w : World) (win : Nat) (E : Int) (ks : List Kep) (e : Ending) (w' : World) : Prop :=
  ∃ v' qs, e = .returned (.tuple #[.agg #[.int .i64 win, v'], .int .i64 E]) ∧ OwnCache w' w.heap.size v' qs ∧ qs.map (·.1) = ks ∧ Below w.heap.size w w'
theorem put_step (win : Nat) (s : St) (hI : Inv win s) (who x : Nat) (sz : Nat) (hw : who < 17) (hx : x < 13) (hsz : sz ≤ 4) (v : Value) (qs : List (Kep × Value)) (W : World) (hc : CacheAt W v qs) (hqs : qs.map (·.1) = s.ks) :
    Calls Try.prog 10 #[.agg #[.int .i64 win, v], .agg #[.int .i64 who, .int .i64 x, .int .i64 0, .int .i64 2, .int .i64 1, .bool false, .int .i64 sz, .slice none 0 0, .slice none 0 0, .bool false, .int .i64 0]] W
      (PutStep W win (if s.bad who x then 2 else 0) (s.put win who x sz).ks) := by
  have hr : RightC win (qs.map (·.1)) := by rw [hqs]; exact hI.right
  have hn : qs.length ≤ 100 := by have := hr.length_le; simp at this; omega
  have hf := rep_fits who x (sz : Int) hw hx (by omega) (by omega)
  cases hb : s.bad who x with
  | false =>
    obtain ⟨b1, b2, b3, b4⟩ := not_bad hb
    have hlk := hI.look who x hw (by omega) (by omega)
    have h := put10_good win v qs ⟨who, x, 2, 1, sz⟩ W hc hr hn hf (by show (who : Int) < 16; omega) (by show (1 : Int) ≤ x; omega) (by
      rw [hqs]
      show (look s.ks who x).2 = 0
      rw [hlk, St.look, if_neg (by simp [b4]), if_neg b3])
    refine h.mono ?_
    rintro e w' ⟨v', qs', h1, h2, h3, h4⟩
    refine ⟨v', qs', h1, h2, ?_, h4⟩
    rw [h3, hqs, St.put, hb]
    rfl
  | true =>
    have h := put10_bad win v qs ⟨who, x, 2, 1, sz⟩ W hc hr hn hf (fun hc' hx' => by
      rw [hqs]
      show (look s.ks who x).2 ≠ 0
      have hx1 : 1 ≤ x := by have : (1 : Int) ≤ x := hx'; omega
      have hw1 : who < 16 := by have : (who : Int) < 16 := hc'; omega
      rw [hI.look who x hw hx1 (by omega), St.look]
      by_cases hk : s.kept who x = true
      · rw [if_pos hk]; show (1 : Int) ≠ 0; decide
      · rw [if_neg hk]
        have hg : x ≤ s.gone who := by
          unfold St.bad at hb
          rw [show (who == 16) = false by simp; omega, show (x == 0) = false by simp; omega] at hb
          simp only [Bool.false_or, Bool.or_eq_true, decide_eq_true_eq] at hb
          rcases hb with h | h
          · exact h
          · exact absurd h hk
        rw [if_pos hg]; show (2 : Int) ≠ 0; decide)
    refine h.mono ?_
    rintro e w' ⟨v', qs', h1, h2, h3, h4⟩
    refine ⟨v', qs', h1, h2, ?_, h4⟩
    rw [h3, hqs, St.put, hb]
    rfl

theorem CState.swap {w : World} {B win : Nat} {s : St} {ks ks' : List Kep} {v v' : Value} {W : World} {qs : List (Kep × Value)} (h : CState w B win s ks v W) (ho : OwnCache W (B + 5) v' qs) (hq : qs.map (·.1) = ks') :
    CState w B win s ks' v' ((W.setCell ⟨B, 0, none⟩ (.int .i64 win)).setCell ⟨B, 1, none⟩ v') := by
  have hoth : ∀ k, k ≠ B → ((W.setCell ⟨B, 0, none⟩ (.int .i64 win)).setCell ⟨B, 1, none⟩ v').heap[k]? = W.heap[k]? := fun k hk => by
    rw [heap_setCell_other _ _ _ _ (by simpa using hk), heap_setCell_other _ _ _ _ (by simpa using hk)]
  have h0 := h.b0
  refine ⟨(h.below.setCell (by simpa using h0) _).setCell (by simpa using h0) _, h0, ?_, by rw [hoth _ (by omega)]; exact h.there, by rw [hoth _ (by omega)]; exact h.kept, by rw [hoth _ (by omega)]; exact h.size, by rw [hoth _ (by omega)]; exact h.gone, ⟨qs, ho.same fun k hk => hoth k (by omega), hq⟩⟩
  have h1 := block_setCell (cs := [.int .i64 win, v]) h.c (j := 0) (.int .i64 win)
  have h2 := block_setCell (cs := [.int .i64 win, v]) h1 (j := 1) v'
  exact h2
theorem code_good {s : St} {who x : Nat} (hb : s.bad who x = false) : s.look who (max x 1) = (Rep.zero, 0) := by
  obtain ⟨b1, b2, b3, b4⟩ := not_bad hb
  rw [show max x 1 = x by omega, St.look, if_neg (by simp [b4]), if_neg b3]
theorem put_bad {win : Nat} {s : St} {who x : Nat} {sz : Int} (hb : s.bad who x = true) : s.put win who x sz = s := by rw [St.put, if_pos hb]

theorem CState.frame {w : World} {B win : Nat} {s : St} {ks : List Kep} {v : Value} {W : World} (h : CState w B win s ks v W) (k j : Nat) (x : Value) (hk : B ≤ k) (hk5 : k < B + 5) :
    Below w.heap.size w (W.setCell ⟨k, j, none⟩ x) ∧ (∀ i, i ≠ k → (W.setCell ⟨k, j, none⟩ x).heap[i]? = W.heap[i]?) ∧ ∃ qs, OwnCache (W.setCell ⟨k, j, none⟩ x) (B + 5) v qs ∧ qs.map (·.1) = ks := by
  have h0 := h.b0
  have hoth : ∀ i, i ≠ k → (W.setCell ⟨k, j, none⟩ x).heap[i]? = W.heap[i]? := fun i hi => heap_setCell_other _ _ _ _ (by simpa using hi)
  obtain ⟨qs, h1, h2⟩ := h.own
  exact ⟨h.below.setCell (by simp; omega) _, hoth, qs, h1.same fun i hi => hoth i (by omega), h2⟩

theorem CState.setThere {w : World} {B win : Nat} {s : St} {ks : List Kep} {v : Value} {W : World} (h : CState w B win s ks v W) (c y : Nat) (hy : y < 13) (x : Bool) :
    CState w B win { s with there := upd2 s.there c y x } ks v (W.setCell ⟨B + 1, c * 13 + y, none⟩ (.bool x)) := by
  obtain ⟨hb, ho, hq⟩ := h.frame (B + 1) (c * 13 + y) (.bool x) (by omega) (by omega)
  have hset := block_setCell h.there (j := c * 13 + y) (.bool x)
  have e : (thereA s).set (c * 13 + y) (.bool x) = thereA { s with there := upd2 s.there c y x } := by
    unfold thereA
    rw [arr2_set _ c y hy, upd2_map]
  rw [e] at hset
  exact ⟨hb, h.b0, by rw [ho _ (by omega)]; exact h.c, hset, by rw [ho _ (by omega)]; exact h.kept, by rw [ho _ (by omega)]; exact h.size, by rw [ho _ (by omega)]; exact h.gone, hq⟩

theorem CState.setKept {w : World} {B win : Nat} {s : St} {ks : List Kep} {v : Value} {W : World} (h : CState w B win s ks v W) (c y : Nat) (hy : y < 13) (x : Bool) :
    CState w B win { s with kept := upd2 s.kept c y x } ks v (W.setCell ⟨B + 2, c * 13 + y, none⟩ (.bool x)) := by
  obtain ⟨hb, ho, hq⟩ := h.frame (B + 2) (c * 13 + y) (.bool x) (by omega) (by omega)
  have hset := block_setCell h.kept (j := c * 13 + y) (.bool x)
  have e : (keptA s).set (c * 13 + y) (.bool x) = keptA { s with kept := upd2 s.kept c y x } := by
    unfold keptA
    rw [arr2_set _ c y hy, upd2_map]
  rw [e] at hset
  exact ⟨hb, h.b0, by rw [ho _ (by omega)]; exact h.c, by rw [ho _ (by omega)]; exact h.there, hset, by rw [ho _ (by omega)]; exact h.size, by rw [ho _ (by omega)]; exact h.gone, hq⟩

theorem CState.setSize {w : World} {B win : Nat} {s : St} {ks : List Kep} {v : Value} {W : World} (h : CState w B win s ks v W) (c y : Nat) (hy : y < 13) (x : Int) :
    CState w B win { s with size := upd2 s.size c y x } ks v (W.setCell ⟨B + 3, c * 13 + y, none⟩ (.int .i64 x)) := by
  obtain ⟨hb, ho, hq⟩ := h.frame (B + 3) (c * 13 + y) (.int .i64 x) (by omega) (by omega)
  have hset := block_setCell h.size (j := c * 13 + y) (.int .i64 x)
  have e : (sizeA s).set (c * 13 + y) (.int .i64 x) = sizeA { s with size := upd2 s.size c y x } := by
    unfold sizeA
    rw [arr2_set _ c y hy, upd2_map]
  rw [e] at hset
  exact ⟨hb, h.b0, by rw [ho _ (by omega)]; exact h.c, by rw [ho _ (by omega)]; exact h.there, by rw [ho _ (by omega)]; exact h.kept, hset, by rw [ho _ (by omega)]; exact h.gone, hq⟩

theorem CState.setGone {w : World} {B win : Nat} {s : St} {ks : List Kep} {v : Value} {W : World} (h : CState w B win s ks v W) (c : Nat) (x : Nat) :
    CState w B win { s with gone := upd s.gone c x } ks v (W.setCell ⟨B + 4, c, none⟩ (.int .i64 x)) := by
  obtain ⟨hb, ho, hq⟩ := h.frame (B + 4) c (.int .i64 x) (by omega) (by omega)
  have hset := block_setCell h.gone (j := c) (.int .i64 x)
  have e : (goneA s).set c (.int .i64 x) = goneA { s with gone := upd s.gone c x } := by
    unfold goneA
    rw [fnList_set]
    congr 1
    exact upd_map (fun a : Nat => Value.int .i64 (a : Int)) s.gone c x
  rw [e] at hset
  exact ⟨hb, h.b0, by rw [ho _ (by omega)]; exact h.c, by rw [ho _ (by omega)]; exact h.there, by rw [ho _ (by omega)]; exact h.kept, by rw [ho _ (by omega)]; exact h.size, hset, hq⟩

/-- The kept numbers above j. -/
def flj (k : Nat → Bool) (j : Nat) : List Nat := (List.range' (j + 1) (12 - j)).filter k
theorem flj_step (k : Nat → Bool) (j : Nat) (hj : j < 12) : flj k j = if k (j + 1) then (j + 1) :: flj k (j + 1) else flj k (j + 1) := by
  unfold flj
  rw [show 12 - j = (12 - (j + 1)) + 1 by omega, List.range'_succ, List.filter_cons]
theorem flj_len (k : Nat → Bool) (j : Nat) : (flj k j).length ≤ 12 := by
  unfold flj
  refine Nat.le_trans (List.length_filter_le _ _) ?_
  rw [List.length_range']; omega
theorem flj_head (k : Nat → Bool) (j : Nat) : (flj k j).headD 0 ≤ 12 := by
  cases e : flj k j with
  | nil => simp
  | cons a t =>
    have ha : a ∈ flj k j := by rw [e]; simp
    unfold flj at ha
    have := List.mem_range'_1.1 (mem_of_filter ha)
    simp only [List.headD_cons]
    omega
/-- The arrays behind a good put, ahead of what is let go. -/
def St.mid (s : St) (who x : Nat) (sz : Int) : St := { s with there := upd2 s.there who x true, kept := upd2 s.kept who x true, size := upd2 s.size who x sz }
theorem put_good (win : Nat) (s : St) (who x : Nat) (sz : Int) (hb : s.bad who x = false) : s.put win who x sz =
    { (s.mid who x sz) with ks := putK win ⟨who, x, 2, 1, sz⟩ s.ks, kept := if (fl ((s.mid who x sz).kept who)).length > win then upd2 (s.mid who x sz).kept who ((fl ((s.mid who x sz).kept who)).headD 0) false else (s.mid who x sz).kept, gone := if (fl ((s.mid who x sz).kept who)).length > win then upd s.gone who ((fl ((s.mid who x sz).kept who)).headD 0) else s.gone } := by
  have e : fl ((s.mid who x sz).kept who) = s.least who x := by unfold St.mid St.least; simp only; rw [upd2_row]
  rw [St.put, hb, e]
  rfl
theorem CState.ksfree {w : World} {B win : Nat} {s : St} {ks : List Kep} {v : Value} {W : World} (h : CState w B win s ks v W) (ks' : List Kep) : CState w B win { s with ks := ks' } ks v W :=
  ⟨h.below, h.b0, h.c, h.there, h.kept, h.size, h.gone, h.own⟩
theorem CState.drew {w : World} {B win : Nat} {s : St} {ks : List Kep} {v : Value} {W : World} (h : CState w B win s ks v W) : CState w B win s ks v W.drew := h.step ((Below.refl _ _).drew)
end Go.Proofs.Ytihfikepfhcboaa
