/- The leaf functions under TopReplies, each by its contract: whether an answer is right, clones, an answer in memory of its own, where an answer stands beside a number. Conditions: each stands in its own theorem. -/
import Derived.Test.YtihfikepfhcboaaProg
import Derived.Test.YtihfikepfhcboaaMem
import Derived.Deep.RegionWith
import Derived.Lib.Hide
namespace Go.Proofs.Ytihfikepfhcboaa
open Go.RowKit

/-- An answer, as far as these statements reach: client, number, handle, size. -/
structure Rep where
  cl : Int
  xid : Int
  hid : Int
  hgen : Int
  size : Int
def Rep.cs (r : Rep) : List Value := [.int .i64 r.cl, .int .i64 r.xid, .int .i64 0, .int .i64 r.hid, .int .i64 r.hgen, .bool false, .int .i64 r.size, .slice none 0 0, .slice none 0 0, .bool false, .int .i64 0]
structure Rep.fits (r : Rep) : Prop where
  h : r.hid = 0 ∧ r.hgen = 0 ∨ r.hid = 2 ∧ r.hgen = 1
  cl0 : 0 ≤ r.cl
  cl1 : r.cl ≤ 16
  xid0 : 0 ≤ r.xid
  xid1 : r.xid ≤ 1000
  s0 : 0 ≤ r.size
  s1 : r.size ≤ 1000
theorem Rep.len (r : Rep) : r.cs.length = 11 := rfl
theorem Rep.one (r : Rep) : ∀ u ∈ r.cs, u.oneCell' = true := by simp [Rep.cs, Value.oneCell']

theorem Try.info49 : (Try.prog.info? 49).map (fun i => (i.zero, i.size, i.bytes)) = some (some (.agg #[.int .i64 0, .int .i64 0, .int .i64 0, .int .i64 0, .int .i64 0, .bool false, .int .i64 0, .slice none 0 0, .slice none 0 0, .bool false, .int .i64 0]), 11, 120) := by kernel_rfl
theorem Try.info106 : (Try.prog.info? 106).map (fun i => (i.zero, i.size, i.bytes)) = some (some (.agg #[.int .i64 0, .int .i64 0, .slice none 0 0]), 3, 40) := by kernel_rfl
theorem Try.ul104 : Try.prog.underlying 104 = some (.slice 49) := by kernel_rfl
theorem Try.ul37 : Try.prog.underlying 37 = some (.slice 106) := by kernel_rfl
theorem Try.ul29 : Try.prog.underlying 29 = some (.slice 5) := by kernel_rfl
theorem Try.ul47 : Try.prog.underlying 47 = some (.slice 139) := by kernel_rfl
theorem Try.agg49 (w : World) : (isAgg 49).run Try.prog w = .ok true w := by kernel_rfl
theorem Try.agg106 (w : World) : (isAgg 106).run Try.prog w = .ok true w := by kernel_rfl
theorem Try.size49 (w : World) : (sizeOf 49).run Try.prog w = .ok 11 w := by kernel_rfl
theorem Try.size106 (w : World) : (sizeOf 106).run Try.prog w = .ok 3 w := by kernel_rfl

theorem whose63 (c x : Int) (w : World) (h0 : 0 ≤ c) (hc : c < 16) (hx : 1 ≤ x) (hx' : x ≤ 1099511627776) :
    Calls Try.prog 63 #[.int .i64 c, .int .i64 x] w fun e w' => e = .returned (.bool true) ∧ w = w' := by
  go_enter Try.func63, Try.ntmps63
  go_wp2
  go_ret
  exact ⟨rfl, rfl⟩

theorem whose63f (c x : Int) (w : World) (h0 : 0 ≤ c) (h : ¬ (c < 16 ∧ 1 ≤ x)) (hx' : x ≤ 1099511627776) :
    Calls Try.prog 63 #[.int .i64 c, .int .i64 x] w fun e w' => e = .returned (.bool false) ∧ w = w' := by
  by_cases hc : c < 16
  · have hx : x < 1 := by omega
    clear h
    go_enter Try.func63, Try.ntmps63
    go_wp2
    go_ret
    exact ⟨rfl, rfl⟩
  · clear h
    go_enter Try.func63, Try.ntmps63
    go_wp2
    go_ret
    exact ⟨rfl, rfl⟩

theorem hright65 (i g : Int) (w : World) (h0 : 1 ≤ i) (hc : i ≤ 500) (hx : 1 ≤ g) (hx' : g ≤ 1099511627776) :
    Calls Try.prog 65 #[.agg #[.int .i64 i, .int .i64 g]] w fun e w' => e = .returned (.bool true) ∧ Below w.heap.size w w' := by
  go_enter Try.func65, Try.ntmps65
  go_wp2
  go_ret
  exact ⟨rfl, (Below.refl _ _).alloc (Nat.le_refl _) _⟩

theorem rr31a (cl xid size : Int) (w : World) (h0 : 0 ≤ cl) (hc : cl < 16) (hx : 1 ≤ xid) (hx' : xid ≤ 1099511627776) (hs : 0 ≤ size) (hs' : size ≤ 65536) :
    Calls Try.prog 31 #[.agg #[.int .i64 cl, .int .i64 xid, .int .i64 0, .int .i64 2, .int .i64 1, .bool false, .int .i64 size, .slice none 0 0, .slice none 0 0, .bool false, .int .i64 0]] w fun e w' => e = .returned (.bool true) ∧ Below w.heap.size w w' := by
  go_enter Try.func31, Try.ntmps31
  go_wp2_with (first
    | (go_at_call 63; refine (whose63 _ _ _ h0 hc hx hx').mono ?_; rintro e w' ⟨rfl, rfl⟩)
    | (go_at_call 65; refine (hright65 _ _ _ (by decide) (by decide) (by decide) (by decide)).mono ?_; rintro e w' ⟨rfl, hb⟩; obtain ⟨hcc, hff⟩ := bcell hb))
  go_loop [94] (fun i => i = .int .i64 0) (fun i => 0)
  case atStart => rfl
  case round =>
    subst hrel
    go_wp2
    go_ret
    exact ⟨rfl, ((Below.refl _ _).alloc (Nat.le_refl _) _).trans (hb.mono (by simp))⟩

theorem rr31b (cl xid size : Int) (w : World) (h0 : 0 ≤ cl) (hc : cl < 16) (hx : 1 ≤ xid) (hx' : xid ≤ 1099511627776) (hs : 0 ≤ size) (hs' : size ≤ 65536) :
    Calls Try.prog 31 #[.agg #[.int .i64 cl, .int .i64 xid, .int .i64 0, .int .i64 0, .int .i64 0, .bool false, .int .i64 size, .slice none 0 0, .slice none 0 0, .bool false, .int .i64 0]] w fun e w' => e = .returned (.bool true) ∧ Below w.heap.size w w' := by
  go_enter Try.func31, Try.ntmps31
  go_wp2_with (go_at_call 63; refine (whose63 _ _ _ h0 hc hx hx').mono ?_; rintro e w' ⟨rfl, rfl⟩)
  go_loop [94] (fun i => i = .int .i64 0) (fun i => 0)
  case atStart => rfl
  case round =>
    subst hrel
    go_wp2
    go_ret
    exact ⟨rfl, (Below.refl _ _).alloc (Nat.le_refl _) _⟩

/-- call.RightReply of a right answer. -/
theorem rr31 (r : Rep) (w : World) (hr : r.fits) (hc : r.cl < 16) (hx : 1 ≤ r.xid) :
    Calls Try.prog 31 #[.agg r.cs.toArray] w fun e w' => e = .returned (.bool true) ∧ Below w.heap.size w w' := by
  obtain ⟨h, c0, c1, x0, x1, s0, s1⟩ := hr
  obtain ⟨cl, xid, hid, hgen, size⟩ := r
  rcases h with ⟨h1, h2⟩ | ⟨h1, h2⟩
  · simp only at *; subst h1 h2; exact rr31b cl xid size w c0 hc hx (by omega) s0 (by omega)
  · simp only at *; subst h1 h2; exact rr31a cl xid size w c0 hc hx (by omega) s0 (by omega)

/-- call.RightReply of an answer of a client that may not be, or without a number. -/
theorem rr31f' (cl xid hid hgen size : Int) (w : World) (hh : hid = 0 ∧ hgen = 0 ∨ hid = 2 ∧ hgen = 1) (h0 : 0 ≤ cl) (h : ¬ (cl < 16 ∧ 1 ≤ xid)) (hx' : xid ≤ 1099511627776) :
    Calls Try.prog 31 #[.agg #[.int .i64 cl, .int .i64 xid, .int .i64 0, .int .i64 hid, .int .i64 hgen, .bool false, .int .i64 size, .slice none 0 0, .slice none 0 0, .bool false, .int .i64 0]] w fun e w' => e = .returned (.bool false) ∧ Below w.heap.size w w' := by
  have h := Lib.hid h
  rcases hh with ⟨rfl, rfl⟩ | ⟨rfl, rfl⟩
  all_goals
    go_enter Try.func31, Try.ntmps31
    go_wp2_with (go_at_call 63; refine (whose63f _ _ _ h0 h.out hx').mono ?_; rintro e w' ⟨rfl, rfl⟩)
    go_ret
    exact ⟨rfl, (Below.refl _ _).alloc (Nat.le_refl _) _⟩
theorem rr31f (r : Rep) (w : World) (hr : r.fits) (h : ¬ (r.cl < 16 ∧ 1 ≤ r.xid)) :
    Calls Try.prog 31 #[.agg r.cs.toArray] w fun e w' => e = .returned (.bool false) ∧ Below w.heap.size w w' :=
  rr31f' r.cl r.xid r.hid r.hgen r.size w hr.h hr.cl0 h (by have := hr.xid1; omega)

set_option maxRecDepth 100000 in
/-- slices.Clone: the same cells in memory of the call's own. -/
theorem clone69 (v : Value) (n : Nat) (xs : List Value) (w : World) (hs : SlOf w 11 v n xs) (h1 : ∀ u ∈ xs, u.oneCell' = true) (hn : n ≤ 1000) :
    Calls Try.prog 69 #[v] w fun e w' => ∃ v', e = .returned v' ∧ w'.ownsRow w.heap.size 49 11 v' n xs ∧ Below w.heap.size w w' := by
  obtain ⟨i0, hi, hz0, hz1, hz2⟩ := info_parts Try.info49
  have kq := fun (w : World) a n c => Lib.run_eql_slice_nil (P := Try.prog) w 104 49 a n c 0 0 Try.ul104
  rcases hs with ⟨rfl, rfl, rfl⟩ | ⟨b, o, cap, rfl, h2, h3, h4, h5, h6⟩
  · clear hi hz0 hz1 hz2
    go_enter Try.func69, Try.ntmps69
    go_wp2
    go_ret
    exact ⟨_, rfl, World.ownsRow_nil _ _ _ _, Below.refl _ _⟩
  · go_enter Try.func69, Try.ntmps69
    go_wp2_with (at_builtin; (refine wpList_append_own _ rfl (.tmp 5) (.tmp 6) 104 rfl w.heap.size 49 i0 _ 11 120 Try.ul104 hi hz0 hz1 hz2 rfl (by decide) _ 0 [] rfl (World.ownsRow_made _ _ _ (Nat.le_refl _) (by decide) rfl) ⟨b, o, none⟩ n cap xs rfl h5 (fun j v hv => by rw [add_lit]; exact (h6.below ((Below.refl _ _).alloc (Nat.le_refl _) _) h4) j v hv) h1 (by unfold maxLen; omega) (by omega) (by simp) ?_; intro v' w' hown hgr hnil; clear hnil))
    go_ret
    refine ⟨_, rfl, by simpa using hown, ((Below.refl _ _).alloc (Nat.le_refl _) _).grown hgr (by simp) ?_⟩
    intro k hk; cases hk; exact Nat.le_refl _

set_option maxRecDepth 100000 in
/-- slices.Clone: the same cells in memory of the call's own. -/
theorem clone68 (v : Value) (n : Nat) (xs : List Value) (w : World) (hs : SlOf w 3 v n xs) (h1 : ∀ u ∈ xs, u.oneCell' = true) (hn : n ≤ 1000) :
    Calls Try.prog 68 #[v] w fun e w' => ∃ v', e = .returned v' ∧ w'.ownsRow w.heap.size 106 3 v' n xs ∧ Below w.heap.size w w' := by
  obtain ⟨i0, hi, hz0, hz1, hz2⟩ := info_parts Try.info106
  have kq := fun (w : World) a n c => Lib.run_eql_slice_nil (P := Try.prog) w 37 106 a n c 0 0 Try.ul37
  rcases hs with ⟨rfl, rfl, rfl⟩ | ⟨b, o, cap, rfl, h2, h3, h4, h5, h6⟩
  · clear hi hz0 hz1 hz2
    go_enter Try.func68, Try.ntmps68
    go_wp2
    go_ret
    exact ⟨_, rfl, World.ownsRow_nil _ _ _ _, Below.refl _ _⟩
  · go_enter Try.func68, Try.ntmps68
    go_wp2_with (at_builtin; (refine wpList_append_own _ rfl (.tmp 5) (.tmp 6) 37 rfl w.heap.size 106 i0 _ 3 40 Try.ul37 hi hz0 hz1 hz2 rfl (by decide) _ 0 [] rfl (World.ownsRow_made _ _ _ (Nat.le_refl _) (by decide) rfl) ⟨b, o, none⟩ n cap xs rfl h5 (fun j v hv => by rw [add_lit]; exact (h6.below ((Below.refl _ _).alloc (Nat.le_refl _) _) h4) j v hv) h1 (by unfold maxLen; omega) (by omega) (by simp) ?_; intro v' w' hown hgr hnil; clear hnil))
    go_ret
    refine ⟨_, rfl, by simpa using hown, ((Below.refl _ _).alloc (Nat.le_refl _) _).grown hgr (by simp) ?_⟩
    intro k hk; cases hk; exact Nat.le_refl _

theorem clone76 (w : World) : Calls Try.prog 76 #[.slice none 0 0] w fun e w' => e = .returned (.slice none 0 0) ∧ w = w' := by
  have kq := fun (w : World) a n c => Lib.run_eql_slice_nil (P := Try.prog) w 29 5 a n c 0 0 Try.ul29
  go_enter Try.func76, Try.ntmps76
  go_wp2
  go_ret
  exact ⟨rfl, rfl⟩
theorem clone77 (w : World) : Calls Try.prog 77 #[.slice none 0 0] w fun e w' => e = .returned (.slice none 0 0) ∧ w = w' := by
  have kq := fun (w : World) a n c => Lib.run_eql_slice_nil (P := Try.prog) w 47 139 a n c 0 0 Try.ul47
  go_enter Try.func77, Try.ntmps77
  go_wp2
  go_ret
  exact ⟨rfl, rfl⟩

set_option maxRecDepth 100000 in
set_option maxHeartbeats 2000000 in
theorem own38' (cl xid hid hgen size : Int) (w : World) :
    Calls Try.prog 38 #[.agg #[.int .i64 cl, .int .i64 xid, .int .i64 0, .int .i64 hid, .int .i64 hgen, .bool false, .int .i64 size, .slice none 0 0, .slice none 0 0, .bool false, .int .i64 0]] w fun e w' =>
      e = .returned (.agg #[.int .i64 cl, .int .i64 xid, .int .i64 0, .int .i64 hid, .int .i64 hgen, .bool false, .int .i64 size, .slice none 0 0, .slice none 0 0, .bool false, .int .i64 0]) ∧ Below w.heap.size w w' := by
  go_enter Try.func38, Try.ntmps38
  go_wp2_with fail
  go_region_with (first | (go_at_call 76; refine (clone76 _).mono ?_; rintro e w' ⟨rfl, rfl⟩) | (go_at_call 77; refine (clone77 _).mono ?_; rintro e w' ⟨rfl, rfl⟩))
  all_goals
    go_wp2
    exact bodyPost_ret (v := .agg #[.int .i64 cl, .int .i64 xid, .int .i64 0, .int .i64 hid, .int .i64 hgen, .bool false, .int .i64 size, .slice none 0 0, .slice none 0 0, .bool false, .int .i64 0]) (by simp [results, Try.results38, go_sem]) rfl ⟨rfl, by
      repeat (first | (refine Below.setCell ?_ (by simp) _) | (refine Below.alloc ?_ (by simp; try omega) _) | refine Below.drew ?_)
      exact Below.refl _ _⟩
/-- replies.own: the same answer. -/
theorem own38 (r : Rep) (w : World) : Calls Try.prog 38 #[.agg r.cs.toArray] w fun e w' => e = .returned (.agg r.cs.toArray) ∧ Below w.heap.size w w' :=
  own38' r.cl r.xid r.hid r.hgen r.size w

/-- What stands for an answer beside a number. -/
def cmpI (a b : Int) : Int := if a < b then -1 else if b < a then 1 else 0
theorem cmpI_lt (a b : Int) : (cmpI a b < 0) ↔ a < b := by unfold cmpI; split <;> (try split) <;> omega
theorem cmpI_eq (a b : Int) : (cmpI a b = 0) ↔ a = b := by unfold cmpI; split <;> (try split) <;> omega

theorem compare36' (cl xid hid hgen size x : Int) (w : World) :
    Calls Try.prog 36 #[.agg #[.int .i64 cl, .int .i64 xid, .int .i64 0, .int .i64 hid, .int .i64 hgen, .bool false, .int .i64 size, .slice none 0 0, .slice none 0 0, .bool false, .int .i64 0], .int .i64 x] w fun e w' => e = .returned (.int .i64 (cmpI xid x)) ∧ Below w.heap.size w w' := by
  rcases Int.lt_trichotomy xid x with h | h | h
  · have hk : cmpI xid x = -1 := by unfold cmpI; rw [if_pos h]
    rw [hk]
    go_enter Try.func36, Try.ntmps36
    go_wp2
    go_ret
    exact ⟨rfl, (Below.refl _ _).alloc (Nat.le_refl _) _⟩
  · subst h
    have hk : cmpI xid xid = 0 := (cmpI_eq _ _).2 rfl
    rw [hk]
    clear hk
    go_enter Try.func36, Try.ntmps36
    go_wp2
    go_ret
    exact ⟨rfl, (Below.refl _ _).alloc (Nat.le_refl _) _⟩
  · have hk : cmpI xid x = 1 := by unfold cmpI; rw [if_neg (by omega), if_pos h]
    rw [hk]
    go_enter Try.func36, Try.ntmps36
    go_wp2
    go_ret
    exact ⟨rfl, (Below.refl _ _).alloc (Nat.le_refl _) _⟩
/-- replies.compare. -/
theorem compare36 (r : Rep) (x : Int) (w : World) : Calls Try.prog 36 #[.agg r.cs.toArray, .int .i64 x] w fun e w' => ∃ c : Int, e = .returned (.int .i64 c) ∧ (c < 0 ↔ r.xid < x) ∧ (c = 0 ↔ r.xid = x) ∧ Below w.heap.size w w' :=
  (compare36' r.cl r.xid r.hid r.hgen r.size x w).mono fun _ _ ⟨h, hb⟩ => ⟨_, h, cmpI_lt _ _, cmpI_eq _ _, hb⟩

theorem of71' (k x g : Int) (s : Value) (w : World) (h0 : 0 ≤ k) (h1 : k ≤ 1000) (h2 : 0 ≤ x) (h3 : x ≤ 1000) :
    Calls Try.prog 71 #[.agg #[.int .i64 k, .int .i64 g, s], .int .i64 x] w fun e w' => e = .returned (.int .i64 (k - x)) ∧ Below w.heap.size w w' := by
  go_enter Try.func71, Try.ntmps71
  go_wp2
  go_ret
  exact ⟨rfl, (Below.refl _ _).alloc (Nat.le_refl _) _⟩
/-- replies.of's function. -/
theorem of71 (k x g : Int) (s : Value) (w : World) (h0 : 0 ≤ k) (h1 : k ≤ 1000) (h2 : 0 ≤ x) (h3 : x ≤ 1000) :
    Calls Try.prog 71 #[.agg #[.int .i64 k, .int .i64 g, s], .int .i64 x] w fun e w' => ∃ c : Int, e = .returned (.int .i64 c) ∧ (c < 0 ↔ k < x) ∧ (c = 0 ↔ k = x) ∧ Below w.heap.size w w' :=
  (of71' k x g s w h0 h1 h2 h3).mono fun _ _ ⟨h, hb⟩ => ⟨_, h, by omega, by omega, hb⟩
end Go.Proofs.Ytihfikepfhcboaa
