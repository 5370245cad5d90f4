/- Runs of append and copy at elements of any size, and the laws by which walks meet them. Conditions: each stands in its own theorem. -/
import Derived.Test.YtihfikepfhcboaaMem
import Derived.Laws.CopyOwn
import Derived.Lib.AppendZerosOnto
import Derived.Lib.Overlaps
import Derived.Laws.Externs
import Derived.Deep.RegionLaw
namespace Go.Proofs.Ytihfikepfhcboaa
open Go.RowKit

section
variable {P : Program} (w : World)

/-- copy between rows of elements of sz cells. -/
theorem run_copy_sz (dT sT ty elem : TypeId) (sz : Nat) (hu : P.underlying dT = some (.slice elem)) (hz : ∀ w, (sizeOf elem).run P w = .ok sz w)
    (g off dLen dCap : Nat) (ad : Addr) (sLen sCap : Nat) (cur : List Value) (t : TypeId) (hg : w.heap[g]? = some (.cells cur.toArray t (0, 0))) (cs : List Value) (hn : cs.length = Nat.min sLen dLen * sz)
    (hsrc : ∀ j v, cs[j]? = some v → w.cell? (ad.add j) = some v) (hfit : off + cs.length ≤ cur.length) (h1 : ∀ v ∈ cs, v.oneCell' = true) :
    (Builtin.copy_ #[dT, sT] ty #[.slice (some ⟨g, off, none⟩) dLen dCap, .slice (some ad) sLen sCap]).run P w = .ok (goInt (Nat.min sLen dLen)) (w.setRow g (splice cur off cs).toArray) := by
  have hf := run_firstCells_some (P := P) w sz (Nat.min sLen dLen) ad sLen sCap cs hn hsrc
  have hst := run_storeCells_at P g off t cs 0 cur.toArray w hg (by simpa using hfit) h1
  simp only [Nat.add_zero] at hst
  have e : ((List.take off cur ++ cs ++ List.drop (off + cs.length) cur) : List Value) = splice cur off cs := by simp [splice]
  rw [e] at hst
  simp [Builtin.copy_, run_underlying hu, hz, Builtin.lenOf, hf, hst]

/-- An append to what the call owns: what run_append_own says, and where the row lies then. -/
theorem run_append_own2 (base : Nat) (t ty e : TypeId) (i : TypeInfo) (z : Value) (size bytes : Nat) (ht : P.underlying t = some (.slice e)) (hi : P.info? e = some i) (hz : i.zero = some z)
    (hsize : i.size = size) (hby : i.bytes = bytes) (hzs : z.cells.size = size) (hsz : 0 < size)
    (v : Value) (n : Nat) (xs : List Value) (hown : w.ownsRow base e size v n xs)
    (a : Addr) (m c : Nat) (news : List Value) (hl : news.length = m * size) (hnews : ∀ j u, news[j]? = some u → w.cell? (a.add j) = some u) (h1 : ∀ u ∈ news, u.oneCell' = true)
    (h63 : n + m ≤ maxLen) (hbytes : (n + m) * bytes ≤ 140737488355328) (hbase : base ≤ w.heap.size) (hm : 0 < m) :
    ∃ v' w', (Builtin.append_ #[t, t] ty #[v, .slice (some a) m c]).run P w = .ok v' w' ∧ w'.ownsRow base e size v' (n + m) (xs ++ news) ∧ w.grownBy w' v.ownBlock ∧
      (v'.ownBlock = v.ownBlock ∨ v'.ownBlock = some w.heap.size) := by
  obtain ⟨v', w', hr, ho, hgr, _⟩ := run_append_own (P := P) w base t ty e i z size bytes ht hi hz hsize hby hzs hsz v n xs hown a m c news hl hnews h1 h63 hbytes hbase
  refine ⟨v', w', hr, ho, hgr, ?_⟩
  have h63' : ((n + m : Nat) : Int) ≤ 9223372036854775807 := by simp only [maxLen] at h63; omega
  rcases hown.2 with ⟨rfl, rfl⟩ | ⟨g, cap, cur, rfl, hbg, hg, hnc, hcm, hcs, htake⟩
  · have hx := run_append_nil (P := P) w t ty e i z ht hi hz a m c news (by rw [hsize]; exact hl) hnews hm (by simpa using h63') (by rw [hby]; simp only [Nat.zero_add] at hbytes; omega)
    rw [hx] at hr
    injection hr with hv _
    rw [← hv]
    exact .inr rfl
  · by_cases hroom : n + m ≤ cap
    · have hfit : n * size + news.length ≤ cur.size := by rw [hl, hcs, ← Nat.add_mul]; exact Nat.mul_le_mul_right _ hroom
      have hx := run_append_room (P := P) w t ty e i ht hi g n cap cur hg a m c news (by rw [hsize]; exact hl) hnews h1 hroom (by rw [hsize]; exact hfit)
      rw [hx] at hr
      injection hr with hv _
      rw [← hv]
      exact .inl rfl
    · have hx := run_append_grow (P := P) w t ty e i z ht hi hz ⟨g, 0, none⟩ n cap xs (by rw [hsize]; exact hown.1) (hown.cells (g := g) rfl) a m c news (by rw [hsize]; exact hl) hnews (by omega) h63' (by rw [hby]; exact growslice_fits (by omega) hbytes)
      rw [hx] at hr
      injection hr with hv _
      rw [← hv]
      exact .inr rfl

end

section
variable {P : Program} {ops : Array Oper} {Q : Exit → Act → World → Prop} {rest : List Oper} {a : Act} {w : World}

/-- A copy whose run is known. -/
theorem wp_copy_run {o : Oper} {K : Act → World → Prop} (d s : Operand) (t t' : TypeId) (ho : o.op = .call { callee := .builtin .copy, args := #[d, s], argTypes := #[t, t'] })
    {v u : Value} (hd : a.eval d = v) (hs : a.eval s = u) {v' : Value} {w' : World} (hr : (Builtin.copy_ #[t, t'] o.type #[v, u]).run P w = .ok v' w') (h : K (a.put o.dst v') w') : o.wp P a w K Q := by
  unfold Oper.wp execOp
  simp only [ho, resolve, invoke, builtin, Sem.run_bind, Sem.run_pure, Result.andThen_ok, List.map_toArray, List.map_cons, List.map_nil, hd, hs, hr]
  exact h
theorem wpList_copy_run {o : Oper} (d s : Operand) (t t' : TypeId) (ho : o.op = .call { callee := .builtin .copy, args := #[d, s], argTypes := #[t, t'] }) (hw : Region.wanted o (yielded ops a.tmps) = true)
    {v u : Value} (hd : a.eval d = v) (hs : a.eval s = u) {v' : Value} {w' : World} (hr : (Builtin.copy_ #[t, t'] o.type #[v, u]).run P w = .ok v' w') (h : wpList P ops Q rest (a.put o.dst v') w') : wpList P ops Q (o :: rest) a w :=
  wpList_law hw fun _ hK => wp_copy_run d s t t' ho hd hs hr (hK _ _ h)
/-- The same as a step of a region that draws its order. -/
theorem step_copy_run {o : Oper} {K : Act → World → Prop} {E : Prop} (d s : Operand) (t t' : TypeId) (ho : o.op = .call { callee := .builtin .copy, args := #[d, s], argTypes := #[t, t'] }) (hg : o.guard = none)
    {v u : Value} (hd : a.eval d = v) (hs : a.eval s = u) {v' : Value} {w' : World} (hr : (Builtin.copy_ #[t, t'] o.type #[v, u]).run P w = .ok v' w') (h : K (a.put o.dst v') w') :
    if Region.wanted o (yielded ops a.tmps) = true then Oper.wp P o a w K Q else E := by
  rw [if_pos (by simp [Region.wanted, hg])]
  exact wp_copy_run d s t t' ho hd hs hr h
/-- An append whose run is known, as a step of a region that draws its order. -/
theorem step_append_run {o : Oper} {K : Act → World → Prop} {E : Prop} (d s : Operand) (t t' : TypeId) (ho : o.op = .call { callee := .builtin .append, args := #[d, s], argTypes := #[t, t'] }) (hg : o.guard = none)
    {v u : Value} (hd : a.eval d = v) (hs : a.eval s = u) {v' : Value} {w' : World} (hr : (Builtin.append_ #[t, t'] o.type #[v, u]).run P w = .ok v' w') (h : K (a.put o.dst v') w') :
    if Region.wanted o (yielded ops a.tmps) = true then Oper.wp P o a w K Q else E := by
  rw [if_pos (by simp [Region.wanted, hg])]
  exact Lib.wp_append_run w d s t t' ho v u hd hs v' w' hr h
/-- A clear stands next (a guard). -/
theorem wpList_at_clear {dst : Option Nat} {args : Array Operand} {tys : Array TypeId} {ty : TypeId} {pos : String} {af : Array Edge} {g : Option (Nat × Bool)} (h : wpList P ops Q (⟨dst, .call ⟨.builtin .clear, args, tys⟩, ty, pos, af, g⟩ :: rest) a w) : wpList P ops Q (⟨dst, .call ⟨.builtin .clear, args, tys⟩, ty, pos, af, g⟩ :: rest) a w := h
/-- A clear whose run is known. -/
theorem wpList_clear_run {o : Oper} (d : Operand) (t : TypeId) (ho : o.op = .call { callee := .builtin .clear, args := #[d], argTypes := #[t] }) (hw : Region.wanted o (yielded ops a.tmps) = true)
    {v : Value} (hd : a.eval d = v) {v' : Value} {w' : World} (hr : (Builtin.clear_ #[t] o.type #[v]).run P w = .ok v' w') (h : wpList P ops Q rest (a.put o.dst v') w') : wpList P ops Q (o :: rest) a w :=
  wpList_law hw fun K hK => by
    unfold Oper.wp execOp
    simp only [ho, resolve, invoke, builtin, Sem.run_bind, Sem.run_pure, Result.andThen_ok, List.map_toArray, List.map_cons, List.map_nil, hd, hr]
    exact hK _ _ h
end

theorem run_clear_sz {P : Program} (w : World) (t ty elem : TypeId) (i : TypeInfo) (z : Value) (hu : P.underlying t = some (.slice elem)) (hi : P.info? elem = some i) (hz : i.zero = some z) (h1 : ∀ v ∈ z.cells, v.oneCell' = true)
    (g off n c : Nat) (cur : List Value) (tt : TypeId) (hg : w.heap[g]? = some (.cells cur.toArray tt (0, 0))) (hn : n ≠ 0) (hfit : off + n * z.cells.size ≤ cur.length) :
    (Builtin.clear_ #[t] ty #[.slice (some ⟨g, off, none⟩) n c]).run P w = .ok (.tuple #[]) (w.setRow g (splice cur off (Builtin.zeroCells z.cells n).toList).toArray) := by
  have hl : (Builtin.zeroCells z.cells n).toList.length = n * z.cells.size := by simp [Builtin.zeroCells]
  have hst := run_storeCells_at P g off tt (Builtin.zeroCells z.cells n).toList 0 cur.toArray w hg (by rw [hl]; simpa using hfit) (by
    intro v hv
    simp only [Builtin.zeroCells, Array.toList_map, List.mem_map] at hv
    obtain ⟨k, hk, rfl⟩ := hv
    by_cases h0 : z.cells.size = 0
    · have : (Builtin.zeroCells z.cells n).toList.length = 0 := by rw [hl, h0, Nat.mul_zero]
      simp [h0] at hk
    · have hlt : k % z.cells.size < z.cells.size := Nat.mod_lt _ (by omega)
      rw [getElem!_pos z.cells _ hlt]
      exact h1 _ (Array.getElem_mem hlt))
  simp only [Nat.add_zero] at hst
  have e : ((List.take off cur ++ (Builtin.zeroCells z.cells n).toList ++ List.drop (off + (Builtin.zeroCells z.cells n).toList.length) cur) : List Value) = splice cur off (Builtin.zeroCells z.cells n).toList := by simp [splice]
  rw [e] at hst
  cases n with
  | zero => exact absurd rfl hn
  | succ n => simp [Builtin.clear_, run_underlying hu, zeroValue, typeInfo, hi, hz, hst]
/-- The world W' is w, but for block g, which holds cs. -/
structure Wrote (w : World) (g : Nat) (cs : List Value) (t : TypeId) (W' : World) : Prop where
  at_ : W'.heap[g]? = some (.cells cs.toArray t (0, 0))
  other : ∀ k, k ≠ g → W'.heap[k]? = w.heap[k]?
  size : W'.heap.size = w.heap.size
  os : W'.os = w.os
  tape : W'.tape = w.tape
  output : W'.output = w.output

theorem Wrote.of_setRow {w : World} {g : Nat} {old : Array Value} {t : TypeId} (hg : w.heap[g]? = some (.cells old t (0, 0))) (cs : List Value) : Wrote w g cs t (w.setRow g cs.toArray) :=
  ⟨setRow_heap w g _ _ t _ hg, fun k hk => setRow_other w g k _ hk, by simp, rfl, rfl, rfl⟩
theorem Wrote.below {w W' : World} {g : Nat} {cs : List Value} {t : TypeId} (h : Wrote w g cs t W') {B : Nat} (hB : B ≤ g) : Below B w W' :=
  ⟨h.os, h.tape, h.output, by rw [h.size]; exact Nat.le_refl _, fun k hk => h.other k (by omega)⟩
theorem Wrote.cells {w W' : World} {g : Nat} {cs : List Value} {t : TypeId} (h : Wrote w g cs t W') (j : Nat) : W'.cell? ⟨g, j, none⟩ = cs[j]? := by
  rw [cell_of_row W' g j _ t (0, 0) h.at_]; simp
theorem Wrote.free {w W' : World} {g : Nat} {cs : List Value} {t : TypeId} (h : Wrote w g cs t W') (j : Nat) : W'.frozen? ⟨g, j, none⟩ = false := by
  simp [World.frozen?, h.at_]
theorem Wrote.cell_other {w W' : World} {g : Nat} {cs : List Value} {t : TypeId} (h : Wrote w g cs t W') (b o : Nat) (hb : b ≠ g) : W'.cell? ⟨b, o, none⟩ = w.cell? ⟨b, o, none⟩ :=
  World.cell?_of_block (w := w) (a := ⟨b, o, none⟩) (h.other b hb)
theorem Wrote.free_other {w W' : World} {g : Nat} {cs : List Value} {t : TypeId} (h : Wrote w g cs t W') (b o : Nat) (hb : b ≠ g) : W'.frozen? ⟨b, o, none⟩ = w.frozen? ⟨b, o, none⟩ :=
  World.frozen?_of_block (w := w) (a := ⟨b, o, none⟩) (h.other b hb)

theorem run_store_at {P : Program} (w : World) (ty : TypeId) (g off : Nat) (cs cur : List Value) (t : TypeId) (hg : w.heap[g]? = some (.cells cur.toArray t (0, 0))) (hsz : ∀ w, (sizeOf ty).run P w = .ok cs.length w)
    (hfit : off + cs.length ≤ cur.length) (h1 : ∀ v ∈ cs, v.oneCell' = true) : (storeVar ty ⟨g, off, none⟩ (.agg cs.toArray)).run P w = .ok () (w.setRow g (splice cur off cs).toArray) := by
  have hst := run_storeCells_at P g off t cs 0 cur.toArray w hg (by simpa using hfit) h1
  simp only [Nat.add_zero] at hst
  have e : ((List.take off cur ++ cs ++ List.drop (off + cs.length) cur) : List Value) = splice cur off cs := by simp [splice]
  rw [e] at hst
  simp [storeVar, Value.cells, hsz, hst]

section
variable {P : Program} {ops : Array Oper} {Q : Exit → Act → World → Prop} {rest : List Oper} {a : Act} {w : World}
/-- A store stands next (a guard). -/
theorem wpList_at_store (s : TypeId) (x y : Operand) {dst : Option Nat} {ty : TypeId} {pos : String} {af : Array Edge} {g : Option (Nat × Bool)} (h : wpList P ops Q (⟨dst, .store s x y, ty, pos, af, g⟩ :: rest) a w) : wpList P ops Q (⟨dst, .store s x y, ty, pos, af, g⟩ :: rest) a w := h

theorem wp_storeRow {o : Oper} {K : Act → World → Prop} (ty : TypeId) (x y : Operand) (ho : o.op = .store ty x y) {g off : Nat} (hx : a.eval x = .pointer (some ⟨g, off, none⟩))
    {cs cur : List Value} {t : TypeId} (hy : a.eval y = .agg cs.toArray) (hg : w.heap[g]? = some (.cells cur.toArray t (0, 0))) (hsz : ∀ w, (sizeOf ty).run P w = .ok cs.length w) (hfit : off + cs.length ≤ cur.length) (h1 : ∀ v ∈ cs, v.oneCell' = true)
    (h : ∀ W', Wrote w g (splice cur off cs) t W' → K (a.put o.dst undef) W') : o.wp P a w K Q := by
  have hr := run_store_at (P := P) w ty g off cs cur t hg hsz hfit h1
  have := h _ (Wrote.of_setRow hg _)
  unfold Oper.wp execOp
  simp only [ho, hx, hy, Instr.storeAt, Instr.sureAddr, Sem.run_bind, Sem.run_pure, Result.andThen_ok, hr]
  exact this

/-- A struct is stored into a row. -/
theorem wpList_storeRow {o : Oper} (ty : TypeId) (x y : Operand) (ho : o.op = .store ty x y) (hw : Region.wanted o (yielded ops a.tmps) = true) {g off : Nat} (hx : a.eval x = .pointer (some ⟨g, off, none⟩))
    {cs cur : List Value} {t : TypeId} (hy : a.eval y = .agg cs.toArray) (hg : w.heap[g]? = some (.cells cur.toArray t (0, 0))) (hsz : ∀ w, (sizeOf ty).run P w = .ok cs.length w) (hfit : off + cs.length ≤ cur.length) (h1 : ∀ v ∈ cs, v.oneCell' = true)
    (h : ∀ W', Wrote w g (splice cur off cs) t W' → wpList P ops Q rest (a.put o.dst undef) W') : wpList P ops Q (o :: rest) a w :=
  wpList_law hw fun _ hK => wp_storeRow ty x y ho hx hy hg hsz hfit h1 fun W' hW => hK _ _ (h W' hW)

/-- A struct is stored into a variable of its own. -/
theorem wpList_storeAll {o : Oper} (ty : TypeId) (x y : Operand) (ho : o.op = .store ty x y) (hw : Region.wanted o (yielded ops a.tmps) = true) {g : Nat} (hx : a.eval x = .pointer (some ⟨g, 0, none⟩))
    {cs : List Value} {old : Array Value} {t : TypeId} (hy : a.eval y = .agg cs.toArray) (hg : w.heap[g]? = some (.cells old t (0, 0))) (hsz : ∀ w, (sizeOf ty).run P w = .ok cs.length w) (hfit : cs.length = old.size) (h1 : ∀ v ∈ cs, v.oneCell' = true)
    (h : ∀ W', Wrote w g cs t W' → wpList P ops Q rest (a.put o.dst undef) W') : wpList P ops Q (o :: rest) a w :=
  wpList_storeRow (cur := old.toList) ty x y ho hw hx hy (by simpa using hg) hsz (by simp; omega) h1 fun W' hW => h W' (by
    have e : splice old.toList 0 cs = cs := by
      unfold splice
      rw [List.take_zero, List.nil_append, List.drop_eq_nil_of_le (by simp; omega), List.append_nil]
    rw [e] at hW
    exact hW)
end
end Go.Proofs.Ytihfikepfhcboaa
