/- replies.of and Look at a cache that is right: what they answer, as plain functions of the cache's data. Conditions: each stands in its own theorem. -/
import Derived.Test.YtihfikepfhcboaaLook
import Derived.Test.YtihfikepfhcboaaRun
namespace Go.Proofs.Ytihfikepfhcboaa
open Go.RowKit

/-- The key of the i-th of a list. -/
def keyAt {α : Type} (l : List α) (f : α → Int) (i : Nat) : Int := match l[i]? with | some x => f x | none => 0
theorem keyAt_at {α : Type} {l : List α} {f : α → Int} {i : Nat} (h : i < l.length) : keyAt l f i = f l[i] := by simp [keyAt, h]

theorem find_of_place {α : Type} (l : List α) (f : α → Int) (t : Int) (p : Nat) (hr : Rising (keyAt l f) l.length) (hp : p < l.length) (he : keyAt l f p = t) : l.find? (fun x => f x == t) = some l[p] := by
  rw [List.find?_eq_some_iff_getElem]
  rw [keyAt_at hp] at he
  refine ⟨by simp [he], p, hp, rfl, fun j hj => ?_⟩
  have := hr j p hj hp
  rw [keyAt_at hp, keyAt_at (by omega)] at this
  simp only [Bool.not_eq_true', beq_eq_false_iff_ne, ne_eq]
  omega
theorem find_of_parted {α : Type} (l : List α) (f : α → Int) (t : Int) (p : Nat) (hp : Parted (keyAt l f) t l.length p p) (hr : Rising (keyAt l f) l.length) (he : ¬ (p < l.length ∧ keyAt l f p = t)) : l.find? (fun x => f x == t) = none := by
  rw [List.find?_eq_none]
  intro x hx
  obtain ⟨j, hj, rfl⟩ := List.getElem_of_mem hx
  have k1 := keyAt_at (f := f) hj
  simp only [beq_iff_eq]
  rw [← k1]
  by_cases h1 : j < p
  · have := hp.2.2.1 j h1; omega
  · have h2 := hp.2.2.2 j (by omega) hj
    by_cases h3 : j = p
    · subst h3; exact fun h => he ⟨hj, h⟩
    · have h4 := hr p j (by omega) hj
      have h5 := hp.2.2.2 p (Nat.le_refl _) (by omega)
      omega

/-- An answer with nothing in it. -/
def Rep.zero : Rep := ⟨0, 0, 0, 0, 0⟩
/-- What is known of a number among a client's answers, and of a client's number. -/
def Kep.look (k : Kep) (xid : Int) : Rep × Int :=
  if xid ≤ k.gone then (Rep.zero, 2) else match k.rs.find? (fun r => r.xid == xid) with | some r => (r, 1) | none => (Rep.zero, 0)
def look (ks : List Kep) (client xid : Int) : Rep × Int := match ks.find? (fun k => k.cl == client) with | some k => k.look xid | none => (Rep.zero, 0)

theorem RightC.rising {win : Int} {ks : List Kep} (h : RightC win ks) : Rising (keyAt ks Kep.cl) ks.length := by
  intro i j hi hj
  rw [keyAt_at hj, keyAt_at (by omega)]
  exact h.up i j hi hj
theorem Kep.right.mono {win : Int} {k : Kep} (h : k.right win) : ∀ j i (hi : i < j) (hj : j < k.rs.length), k.rs[i].xid < k.rs[j].xid := by
  intro j
  induction j with
  | zero => intro i hi; omega
  | succ j ih =>
    intro i hi hj
    have h1 := h.up (j + 1) hj
    simp only [Kep.last, List.getElem?_eq_getElem (show j < k.rs.length by omega)] at h1
    by_cases e : i = j
    · subst e; exact h1
    · have := ih i (by omega) (by omega); omega
theorem Kep.right.rising {win : Int} {k : Kep} (h : k.right win) : Rising (keyAt k.rs Rep.xid) k.rs.length := by
  intro i j hi hj
  rw [keyAt_at hj, keyAt_at (by omega)]
  exact h.mono j i hi hj

set_option maxRecDepth 100000 in
set_option maxHeartbeats 800000 in
theorem of33' (win client : Int) (a : Option Addr) (n cap : Nat) (w : World) (R : Ending → World → Prop)
    (hcon : ∀ W, Below w.heap.size w W → Calls Try.prog 70 #[.slice a n cap, .int .i64 client, .func (.func 71) #[] #[]] W R)
    (hR : ∀ (e : Ending) w', R e w' → ∃ (p : Nat) (f : Bool), e = .returned (.tuple #[.int .i64 p, .bool f])) :
    Calls Try.prog 33 #[.agg #[.int .i64 win, .slice a n cap], .int .i64 client] w R := by
  have HC := Lib.hid hcon
  have HR := Lib.hid hR
  clear hcon hR
  go_enter Try.func33, Try.ntmps33
  go_wp2_with (go_at_call 70; refine (HC.out _ ((Below.refl _ _).alloc (Nat.le_refl _) _)).mono ?_; intro e w' hr; obtain ⟨p, f, rfl⟩ := HR.out _ _ hr; have HH := Lib.hid hr; clear hr)
  exact HH.out

theorem PlaceOf.from_below {w W : World} {key : Nat → Int} {t : Int} {n : Nat} {e : Ending} {w' : World} (hb : Below w.heap.size w W) (h : PlaceOf W key t n e w') : PlaceOf w key t n e w' := by
  obtain ⟨p, f, h1, h2, h3, h4⟩ := h
  exact ⟨p, f, h1, h2, h3, hb.trans (h4.mono hb.size)⟩

/-- replies.of: the place of a client. -/
theorem of33 (win client : Int) (v : Value) (ps : List (Kep × Value)) (w : World) (hs : CacheAt w v ps) (hr : RightC win (ps.map (·.1))) (hn : ps.length ≤ 1000) (hc : 0 ≤ client) (hc' : client ≤ 1000) :
    Calls Try.prog 33 #[.agg #[.int .i64 win, v], .int .i64 client] w (PlaceOf w (keyAt (ps.map (·.1)) Kep.cl) client ps.length) := by
  obtain ⟨a, cap, rfl⟩ := SlOf.form hs.1
  refine of33' win client a ps.length cap w _ (fun W hb => ?_) (fun e w' ⟨p, f, h, _⟩ => ⟨p, f, h⟩)
  have h0 := SlOf.below hs.1 hb
  have hb70 := bsf70 (ps.map krow) (keyAt (ps.map (·.1)) Kep.cl) (.slice a ps.length cap) client W (by simpa using h0) (krow_sz ps) (by simpa using hn) (by have := hr.rising; simpa using this) (fun i hi W' => by
    have hi' : i < ps.length := by simpa using hi
    have hk := hr.each ps[i].1 (List.mem_map.2 ⟨_, List.getElem_mem hi', rfl⟩)
    have hk1 := hk.c1
    rw [List.getElem_map, keyAt_at (by simpa using hi'), List.getElem_map]
    exact of71 ps[i].1.cl client ps[i].1.gone ps[i].2 W' hk.c0 (by omega) hc hc')
  rw [List.length_map] at hb70
  exact hb70.mono fun e w' h => h.from_below hb
/-- replies.Look. -/
def Looked (w : World) (a : Rep × Int) (e : Ending) (w' : World) : Prop := e = .returned (.tuple #[.agg a.1.cs.toArray, .int .i64 a.2]) ∧ Below w.heap.size w w'

set_option maxRecDepth 100000 in
set_option maxHeartbeats 1600000 in
theorem look11_none (win client xid : Int) (v : Value) (ps : List (Kep × Value)) (w : World) (hs : CacheAt w v ps) (hr : RightC win (ps.map (·.1))) (hn : ps.length ≤ 1000) (hc : 0 ≤ client) (hc' : client ≤ 16)
    (hf : (ps.map (·.1)).find? (fun k => k.cl == client) = none) :
    Calls Try.prog 11 #[.agg #[.int .i64 win, v], .int .i64 client, .int .i64 xid] w (Looked w (Rep.zero, 0)) := by
  have H12 := Lib.hid (fun W (hb : Below w.heap.size w W) => right12 win v ps W (hs.below hb) hr hn)
  have H33 := Lib.hid (fun W (hb : Below w.heap.size w W) => of33 win client v ps W (hs.below hb) hr hn hc (by omega))
  have HN := Lib.hid (fun (p : Nat) (f : Bool) (h : f = true ↔ p < ps.length ∧ keyAt (ps.map (·.1)) Kep.cl p = client) => show f = false by
    cases f with
    | false => rfl
    | true =>
      obtain ⟨h1, h2⟩ := h.1 rfl
      have := find_of_place _ _ _ p hr.rising (by simpa using h1) h2
      rw [hf] at this
      cases this)
  obtain ⟨a, cap, rfl⟩ := SlOf.form hs.1
  clear hs hr hf
  by_cases h16 : client < 16
  · go_enter Try.func11, Try.ntmps11
    go_wp2_with (first
      | (go_at_call 12; refine (H12.out _ (((Below.refl _ _).alloc (Nat.le_refl _) _).alloc (by simp) _)).mono ?_; rintro e w' ⟨rfl, hb⟩; obtain ⟨hcc, hff⟩ := bcell hb; have hz : w.heap.size + 1 < w'.heap.size := by have := hb.size; simp at this; omega)
      | (go_at_call 33; refine (H33.out _ ((((Below.refl _ _).alloc (Nat.le_refl _) _).alloc (by simp) _).trans (hb.mono (by simp; omega)))).mono ?_; rintro e w'' ⟨p, f, rfl, hp, hf, hb2⟩; obtain rfl := HN.out _ _ hf; clear hf hp; obtain ⟨hcc2, hff2⟩ := bcell hb2))
    exact bodyPost_ret (v := .tuple #[.agg #[.int .i64 0, .int .i64 0, .int .i64 0, .int .i64 0, .int .i64 0, .bool false, .int .i64 0, .slice none 0 0, .slice none 0 0, .bool false, .int .i64 0], .int .i64 0]) (by simp [results, Try.results11, go_sem, hcc, hcc2, hz]) rfl
      ⟨rfl, by
        have h1 := (((Below.refl w.heap.size w).alloc (Nat.le_refl _) _).alloc (by simp) _).trans (hb.mono (by simp; omega)) |>.trans (hb2.mono (by omega))
        repeat (first | (refine Below.setCell ?_ (by simp) _) | exact h1)⟩
  · go_enter Try.func11, Try.ntmps11
    go_wp2_with (go_at_call 12; refine (H12.out _ (((Below.refl _ _).alloc (Nat.le_refl _) _).alloc (by simp) _)).mono ?_; rintro e w' ⟨rfl, hb⟩; obtain ⟨hcc, hff⟩ := bcell hb; have hz : w.heap.size + 1 < w'.heap.size := by have := hb.size; simp at this; omega)
    exact bodyPost_ret (v := .tuple #[.agg #[.int .i64 0, .int .i64 0, .int .i64 0, .int .i64 0, .int .i64 0, .bool false, .int .i64 0, .slice none 0 0, .slice none 0 0, .bool false, .int .i64 0], .int .i64 0]) (by simp [results, Try.results11, go_sem, hcc, hz]) rfl
      ⟨rfl, by
        have h1 := (((Below.refl w.heap.size w).alloc (Nat.le_refl _) _).alloc (by simp) _).trans (hb.mono (by simp; omega))
        repeat (first | (refine Below.setCell ?_ (by simp) _) | exact h1)⟩

theorem place_unique {key : Nat → Int} {t : Int} {n p q : Nat} (hr : Rising key n) (hq : q < n) (he : key q = t) (hp : Parted key t n p p) : p = q := by
  rcases Nat.lt_trichotomy p q with h | h | h
  · have h1 := hr p q h hq; have h2 := hp.2.2.2 p (Nat.le_refl _) (by omega); omega
  · exact h
  · have := hp.2.2.1 q h; omega

/-- What is known of a client that has answers: its place among the clients, its cells, and what of33 and right12 answer. -/
structure Knows (win client : Int) (ps : List (Kep × Value)) (w : World) (b o cap : Nat) (q : Nat) (k : Kep) (a : Option Addr) (cap' : Nat) : Prop where
  bw : b < w.heap.size
  r12 : ∀ W, Below w.heap.size w W → Calls Try.prog 12 #[.agg #[.int .i64 win, .slice (some ⟨b, o, none⟩) ps.length cap]] W fun e w' => e = .returned (.bool true) ∧ Below W.heap.size W w'
  r33 : ∀ W, Below w.heap.size w W → Calls Try.prog 33 #[.agg #[.int .i64 win, .slice (some ⟨b, o, none⟩) ps.length cap], .int .i64 client] W fun e w' => e = .returned (.tuple #[.int .i64 q, .bool true]) ∧ Below W.heap.size W w'
  row : ∀ W, Below w.heap.size w W → Row W b (o + q * 3) [.int .i64 k.cl, .int .i64 k.gone, .slice a k.rs.length cap']
  kep : ∀ W, Below w.heap.size w W → KepAt W k (.slice a k.rs.length cap')
  lt : q < ps.length
  at_ : ∃ u, ps[q]? = some (k, u)
  right : k.right win
  cl : k.cl = client

theorem knows (win client : Int) (v : Value) (ps : List (Kep × Value)) (w : World) (hs : CacheAt w v ps) (hr : RightC win (ps.map (·.1))) (hn : ps.length ≤ 1000) (hc : 0 ≤ client) (hc' : client ≤ 16) (k : Kep)
    (hf : (ps.map (·.1)).find? (fun k => k.cl == client) = some k) : ∃ b o cap q a cap', v = .slice (some ⟨b, o, none⟩) ps.length cap ∧ Knows win client ps w b o cap q k a cap' := by
  rw [List.find?_eq_some_iff_getElem] at hf
  obtain ⟨hk, q, hq, hkq, _⟩ := hf
  have hq' : q < ps.length := by simpa using hq
  have hcl : k.cl = client := by simpa using hk
  rw [List.getElem_map] at hkq
  have hmem := List.getElem_mem hq'
  have hkey : keyAt (ps.map (·.1)) Kep.cl q = client := by rw [keyAt_at hq, List.getElem_map, hkq]; exact hcl
  obtain ⟨a, cap', hu⟩ := SlOf.form (hs.2 _ hmem)
  rcases hs.1 with ⟨_, h0, _⟩ | ⟨b, o, cap, rfl, h2, h3, h4, h5, h6⟩
  · omega
  · refine ⟨b, o, cap, q, a, cap', rfl, h4, fun W hb => right12 win _ ps W (hs.below hb) hr hn, fun W hb => ?_, fun W hb => ?_, fun W hb => ?_, hq', ⟨ps[q].2, by rw [List.getElem?_eq_getElem hq', ← hkq]⟩, hr.each k (by rw [← hkq]; exact List.mem_map.2 ⟨_, hmem, rfl⟩), hcl⟩
    · refine (of33 win client _ ps W (hs.below hb) hr hn hc (by omega)).mono ?_
      rintro e w' ⟨p, f, rfl, hp, hff, hb'⟩
      have e1 := place_unique (by have := hr.rising; simpa using this) hq' hkey hp
      subst e1
      exact ⟨by rw [hff.2 ⟨hq', hkey⟩], hb'⟩
    · have := (h6.below hb h4).elem (krow_sz _) q (by simpa using hq')
      rw [List.getElem_map, krow, hu, hkq] at this
      exact this
    · have := (hs.2 _ hmem).below hb
      rw [hu, hkq] at this
      exact this

/-- Two blocks of Look's own lie over w: the boxed cache, and the result. -/
structure OwnTwo (w : World) (A : List Value) (tA : TypeId) (W : World) : Prop where
  a : W.heap[w.heap.size]? = some (.cells A.toArray tA (0, 0))
  b : ∃ old, W.heap[w.heap.size + 1]? = some (.cells old 49 (0, 0)) ∧ old.size = 11
  below : Below w.heap.size w W
  lt : w.heap.size + 1 < W.heap.size
  lt0 : w.heap.size < W.heap.size
theorem OwnTwo.start (w : World) (A : List Value) (tA : TypeId) (B : Array Value) (hB : B.size = 11) : OwnTwo w A tA ((w.alloc (.cells A.toArray tA)).alloc (.cells B 49)) :=
  ⟨heap_alloc2_old w _ _, ⟨B, heap_alloc2_new w _ _, hB⟩, ((Below.refl w.heap.size w).alloc (Nat.le_refl _) _).alloc (by simp) _, by simp, by simp; omega⟩
theorem OwnTwo.step {w W W' : World} {A : List Value} {tA : TypeId} (h : OwnTwo w A tA W) (hb : Below W.heap.size W W') : OwnTwo w A tA W' :=
  ⟨by rw [hb.block _ h.lt0]; exact h.a, by rw [hb.block _ h.lt]; exact h.b, h.below.trans (hb.mono (Nat.le_of_lt h.lt0)), Nat.lt_of_lt_of_le h.lt hb.size, Nat.lt_of_lt_of_le h.lt0 hb.size⟩
theorem OwnTwo.cellA {w W : World} {A : List Value} {tA : TypeId} (h : OwnTwo w A tA W) (j : Nat) : W.cell? ⟨w.heap.size, j, none⟩ = A[j]? := by
  rw [cell_of_row W _ j _ tA (0, 0) h.a]; simp

set_option maxRecDepth 100000 in
set_option maxHeartbeats 1600000 in
theorem look11_gone (win client xid : Int) (ps : List (Kep × Value)) (w : World) (b o cap q : Nat) (k : Kep) (a : Option Addr) (cap' : Nat) (h : Knows win client ps w b o cap q k a cap') (hn : ps.length ≤ 1000) (hc : 0 ≤ client) (hc' : client < 16) (hx : xid ≤ k.gone) :
    Calls Try.prog 11 #[.agg #[.int .i64 win, .slice (some ⟨b, o, none⟩) ps.length cap], .int .i64 client, .int .i64 xid] w (Looked w (Rep.zero, 2)) := by
  have H := Lib.hid h
  have hq := h.lt
  have hbw := h.bw
  clear h
  go_enter Try.func11, Try.ntmps11
  go_wp2_with (first
    | (go_at_call 12; refine (H.out.r12 _ (OwnTwo.start w [_, _] 39 _ rfl).below).mono ?_; rintro e w1 ⟨rfl, hb⟩; have ho1 := (OwnTwo.start w [_, _] 39 _ rfl).step hb; clear hb; have hcA1 := ho1.cellA)
    | (go_at_call 33; refine (H.out.r33 _ ho1.below).mono ?_; rintro e w2 ⟨rfl, hb⟩; have ho2 := ho1.step hb; clear hb; have hrow := H.out.row _ ho2.below; have hcA := ho2.cellA)
    | ((with_reducible refine wpList_dst 41 ?_); refine wpList_loadRow 106 (.tmp 40) rfl rfl rfl hrow Try.agg106 (fun w => Try.size106 w) ?_; have ho3 := ho2.step ((Below.refl w2.heap.size w2).alloc (Nat.le_refl _) (.cells #[.int .i64 k.cl, .int .i64 k.gone, .slice a k.rs.length cap'] 106)); obtain ⟨old, hold, hosz⟩ := ho3.b; have HO := Lib.hid hold; clear hold)
    | ((with_reducible refine wpList_at_store 49 (.tmp 6) (.tmp 46) ?_); go_loud (refine wpList_storeAll (cs := Rep.zero.cs) 49 (.tmp 6) (.tmp 46) rfl rfl rfl rfl HO.out Try.size49 hosz.symm Rep.zero.one ?_; intro W' hW; have hres := hW.cells; have hbW := hW.below (B := w.heap.size) (by omega); clear hW)))
  exact bodyPost_ret (v := .tuple #[.agg Rep.zero.cs.toArray, .int .i64 2]) (by simp [results, Try.results11, go_sem, hres, Rep.cs, Rep.zero]) rfl ⟨rfl, ho3.below.trans hbW⟩
theorem bsf_reps (k : Kep) (win xid : Int) (hk : k.right win) (hn : k.rs.length ≤ 1000) (v : Value) (W : World) (hs : KepAt W k v) :
    Calls Try.prog 35 #[v, .int .i64 xid, .func (.func 36) #[] #[]] W (PlaceOf W (keyAt k.rs Rep.xid) xid k.rs.length) := by
  have h := bsf35 (k.rs.map Rep.cs) (keyAt k.rs Rep.xid) v xid W (by simpa [KepAt] using hs) (reps_sz _) (by simpa using hn) (by simpa using hk.rising) (fun i hi W' => by
    have hi' : i < k.rs.length := by simpa using hi
    rw [List.getElem_map, keyAt_at hi']
    exact compare36 k.rs[i] xid W')
  rw [List.length_map] at h
  exact h

set_option maxRecDepth 100000 in
set_option maxHeartbeats 1600000 in
theorem look11_new (win client xid : Int) (ps : List (Kep × Value)) (w : World) (b o cap q : Nat) (k : Kep) (a : Option Addr) (cap' : Nat) (h : Knows win client ps w b o cap q k a cap') (hn : ps.length ≤ 1000) (hc : 0 ≤ client) (hc' : client < 16) (hw1 : win ≤ 100) (hx : ¬ xid ≤ k.gone)
    (hf : k.rs.find? (fun r => r.xid == xid) = none) :
    Calls Try.prog 11 #[.agg #[.int .i64 win, .slice (some ⟨b, o, none⟩) ps.length cap], .int .i64 client, .int .i64 xid] w (Looked w (Rep.zero, 0)) := by
  have H := Lib.hid h
  have hq := h.lt
  have hbw := h.bw
  have HB := Lib.hid (fun W (hb : Below w.heap.size w W) => bsf_reps k win xid h.right (by have := h.right.len; omega) _ W (h.kep W hb))
  have HN := Lib.hid (fun (p : Nat) (f : Bool) (hh : f = true ↔ p < k.rs.length ∧ keyAt k.rs Rep.xid p = xid) => show f = false by
    cases f with
    | false => rfl
    | true =>
      obtain ⟨h1, h2⟩ := hh.1 rfl
      have := find_of_place _ _ _ p h.right.rising h1 h2
      rw [hf] at this
      cases this)
  clear h hf
  go_enter Try.func11, Try.ntmps11
  go_wp2_with (first
    | (go_at_call 12; refine (H.out.r12 _ (OwnTwo.start w [_, _] 39 _ rfl).below).mono ?_; rintro e w1 ⟨rfl, hb⟩; have ho1 := (OwnTwo.start w [_, _] 39 _ rfl).step hb; clear hb; have hcA1 := ho1.cellA)
    | (go_at_call 33; refine (H.out.r33 _ ho1.below).mono ?_; rintro e w2 ⟨rfl, hb⟩; have ho2 := ho1.step hb; clear hb; have hrow := H.out.row _ ho2.below; have hcA := ho2.cellA)
    | ((with_reducible refine wpList_dst 41 ?_); refine wpList_loadRow 106 (.tmp 40) rfl rfl rfl hrow Try.agg106 (fun w => Try.size106 w) ?_; have ho3 := ho2.step ((Below.refl w2.heap.size w2).alloc (Nat.le_refl _) (.cells #[.int .i64 k.cl, .int .i64 k.gone, .slice a k.rs.length cap'] 106)))
    | (go_at_call 35; refine (HB.out _ ho3.below).mono ?_; rintro e w4 ⟨p, f, rfl, hp, hf, hb⟩; obtain rfl := HN.out _ _ hf; clear hf hp; have ho4 := ho3.step hb; clear hb; obtain ⟨old, hold, hosz⟩ := ho4.b; have HO := Lib.hid hold; clear hold)
    | ((with_reducible refine wpList_at_store 49 (.tmp 6) (.tmp 61) ?_); refine wpList_storeAll (cs := Rep.zero.cs) 49 (.tmp 6) (.tmp 61) rfl rfl rfl rfl HO.out Try.size49 hosz.symm Rep.zero.one ?_; intro W' hW; have hres := hW.cells; have hbW := hW.below (B := w.heap.size) (by omega); clear hW))
  exact bodyPost_ret (v := .tuple #[.agg Rep.zero.cs.toArray, .int .i64 0]) (by simp [results, Try.results11, go_sem, hres, Rep.cs, Rep.zero]) rfl ⟨rfl, ho4.below.trans hbW⟩

set_option maxRecDepth 100000 in
set_option maxHeartbeats 1600000 in
theorem look11_known (win client xid : Int) (ps : List (Kep × Value)) (w : World) (b o cap q : Nat) (k : Kep) (a : Option Addr) (cap' : Nat) (h : Knows win client ps w b o cap q k a cap') (hn : ps.length ≤ 1000) (hc : 0 ≤ client) (hc' : client < 16) (hw1 : win ≤ 100) (hx : ¬ xid ≤ k.gone)
    (r : Rep) (hf : k.rs.find? (fun r => r.xid == xid) = some r) :
    Calls Try.prog 11 #[.agg #[.int .i64 win, .slice (some ⟨b, o, none⟩) ps.length cap], .int .i64 client, .int .i64 xid] w (Looked w (r, 1)) := by
  have H := Lib.hid h
  have hq := h.lt
  have hbw := h.bw
  rw [List.find?_eq_some_iff_getElem] at hf
  obtain ⟨hr, j, hj, hjr, _⟩ := hf
  have hkey : keyAt k.rs Rep.xid j = xid := by rw [keyAt_at hj, hjr]; simpa using hr
  have HB := Lib.hid (fun W (hb : Below w.heap.size w W) => bsf_reps k win xid h.right (by have := h.right.len; omega) _ W (h.kep W hb))
  have HN := Lib.hid (fun (p : Nat) (f : Bool) (hp : Parted (keyAt k.rs Rep.xid) xid k.rs.length p p) (hh : f = true ↔ p < k.rs.length ∧ keyAt k.rs Rep.xid p = xid) => show j = p ∧ true = f by
    have e1 := place_unique h.right.rising hj hkey hp
    subst e1
    exact ⟨rfl, (hh.2 ⟨hj, hkey⟩).symm⟩)
  have hlen : k.rs.length ≤ 1000 := by have := h.right.len; omega
  rcases h.kep w (Below.refl _ _) with ⟨_, h0, _⟩ | ⟨b2, o2, cap2, he, hle, hm2, hb2, hl2, hr2⟩
  · omega
  injection he with he1 he2 he3
  subst he1 he3
  have hrow2 : ∀ W, Below w.heap.size w W → Row W b2 (o2 + j * 11) r.cs := fun W hb => by
    have := (hr2.below hb hb2).elem (reps_sz _) j (by simpa using hj)
    rw [List.getElem_map, hjr] at this
    exact this
  have HR2 := Lib.hid hrow2
  clear h hr2 hrow2 hl2 hm2 he2 hkey hr
  go_enter Try.func11, Try.ntmps11
  go_wp2_with (first
    | (go_at_call 12; refine (H.out.r12 _ (OwnTwo.start w [_, _] 39 _ rfl).below).mono ?_; rintro e w1 ⟨rfl, hb⟩; have ho1 := (OwnTwo.start w [_, _] 39 _ rfl).step hb; clear hb; have hcA1 := ho1.cellA)
    | (go_at_call 33; refine (H.out.r33 _ ho1.below).mono ?_; rintro e w2 ⟨rfl, hb⟩; have ho2 := ho1.step hb; clear hb; have hrow := H.out.row _ ho2.below; have hcA := ho2.cellA)
    | ((with_reducible refine wpList_dst 41 ?_); refine wpList_loadRow 106 (.tmp 40) rfl rfl rfl hrow Try.agg106 (fun w => Try.size106 w) ?_; have ho3 := ho2.step ((Below.refl w2.heap.size w2).alloc (Nat.le_refl _) (.cells #[.int .i64 k.cl, .int .i64 k.gone, .slice (some ⟨b2, o2, none⟩) k.rs.length cap'] 106)))
    | (go_at_call 35; refine (HB.out _ ho3.below).mono ?_; rintro e w4 ⟨p, f, rfl, hp, hf, hb⟩; obtain ⟨rfl, rfl⟩ := HN.out _ _ hp hf; clear hf hp; have ho4 := ho3.step hb; have hc2 := hb.cell (p := ⟨w2.heap.size, 2, none⟩) (by simp); clear hb; rw [World.cell?_alloc_new] at hc2; have hrow4 := HR2.out _ ho4.below)
    | ((with_reducible refine wpList_dst 59 ?_); refine wpList_loadRow 49 (.tmp 58) rfl rfl rfl hrow4 Try.agg49 (fun w => Try.size49 w) ?_)
    | (go_at_call 38; refine (own38 r _).mono ?_; rintro e w5 ⟨rfl, hb⟩; have ho5 := ho4.step hb; clear hb; obtain ⟨old, hold, hosz⟩ := ho5.b; have HO := Lib.hid hold; clear hold)
    | ((with_reducible refine wpList_at_store 49 (.tmp 6) (.tmp 60) ?_); refine wpList_storeAll (cs := r.cs) 49 (.tmp 6) (.tmp 60) rfl rfl rfl rfl HO.out Try.size49 hosz.symm r.one ?_; intro W' hW; have hres := hW.cells; have hbW := hW.below (B := w.heap.size) (by omega); clear hW))
  exact bodyPost_ret (v := .tuple #[.agg r.cs.toArray, .int .i64 1]) (by simp [results, Try.results11, go_sem, hres, Rep.cs]) rfl ⟨rfl, ho5.below.trans hbW⟩

/-- replies.Look of a right cache. -/
theorem look11 (win client xid : Int) (v : Value) (ps : List (Kep × Value)) (w : World) (hs : CacheAt w v ps) (hr : RightC win (ps.map (·.1))) (hn : ps.length ≤ 1000) (hc : 0 ≤ client) (hc' : client ≤ 16) :
    Calls Try.prog 11 #[.agg #[.int .i64 win, v], .int .i64 client, .int .i64 xid] w (Looked w (look (ps.map (·.1)) client xid)) := by
  unfold look
  cases hf : (ps.map (·.1)).find? (fun k => k.cl == client) with
  | none => exact look11_none win client xid v ps w hs hr hn hc hc' hf
  | some k =>
    obtain ⟨b, o, cap, q, a, cap', rfl, h⟩ := knows win client v ps w hs hr hn hc hc' k hf
    have hc2 : client < 16 := by have := h.right.c1; rw [h.cl] at this; exact this
    simp only [Kep.look]
    by_cases hx : xid ≤ k.gone
    · rw [if_pos hx]; exact look11_gone win client xid ps w b o cap q k a cap' h hn hc hc2 hx
    · rw [if_neg hx]
      cases hf2 : k.rs.find? (fun r => r.xid == xid) with
      | none => exact look11_new win client xid ps w b o cap q k a cap' h hn hc hc2 hr.w1 hx hf2
      | some r => exact look11_known win client xid ps w b o cap q k a cap' h hn hc hc2 hr.w1 hx r hf2
end Go.Proofs.Ytihfikepfhcboaa
