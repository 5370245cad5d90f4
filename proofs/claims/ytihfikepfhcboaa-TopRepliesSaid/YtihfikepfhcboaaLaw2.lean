/- The plain law of TopReplies, second part: the arrays of what was put stand for the cache's data. No memory in it. Conditions: each stands in its own theorem. -/
import Derived.Test.YtihfikepfhcboaaLaw
namespace Go.Proofs.Ytihfikepfhcboaa

/-- The numbers of 1 to 12 that are kept. -/
def fl (k : Nat → Bool) : List Nat := (List.range' 1 12).filter k
def repOf (w : Nat) (size : Nat → Int) (x : Nat) : Rep := ⟨w, x, 2, 1, size x⟩
def rsOf (w : Nat) (k : Nat → Bool) (size : Nat → Int) : List Rep := (fl k).map (repOf w size)
def upd {α : Type} (f : Nat → α) (a : Nat) (v : α) : Nat → α := fun x => if x = a then v else f x
def upd2 {α : Type} (f : Nat → Nat → α) (a b : Nat) (v : α) : Nat → Nat → α := fun x y => if x = a ∧ y = b then v else f x y
theorem upd2_row {α : Type} (f : Nat → Nat → α) (a b : Nat) (v : α) : upd2 f a b v a = upd (f a) b v := by
  funext y; simp [upd2, upd]
theorem upd2_other {α : Type} (f : Nat → Nat → α) (a b c : Nat) (v : α) (h : c ≠ a) : upd2 f a b v c = f c := by
  funext y; simp [upd2, h]

theorem mem_of_filter {α : Type} {p : α → Bool} {l : List α} {x : α} (h : x ∈ l.filter p) : x ∈ l := (List.mem_filter.1 h).1

theorem insert_filter (w : Nat) (k : Nat → Bool) (size : Nat → Int) (x : Nat) (sz : Int) (hk : k x = false) (L : List Nat) (hs : L.Pairwise (· < ·)) (hx : x ∈ L) :
    insertRep ⟨w, x, 2, 1, sz⟩ ((L.filter k).map (repOf w size)) = (L.filter (upd k x true)).map (repOf w (upd size x sz)) := by
  induction L with
  | nil => simp at hx
  | cons y l ih =>
    obtain ⟨h1, h2⟩ := List.pairwise_cons.1 hs
    have hrest : ∀ z ∈ l, z ≠ x → (upd k x true z = k z ∧ repOf w (upd size x sz) z = repOf w size z) := fun z _ hz => by simp [upd, hz, repOf]
    by_cases e : y = x
    · subst e
      have hnot : ∀ z ∈ l, z ≠ y := fun z hz => by have := h1 z hz; omega
      have e1 : l.filter (upd k y true) = l.filter k := List.filter_congr fun z hz => (hrest z hz (hnot z hz)).1
      have e2 : (l.filter k).map (repOf w (upd size y sz)) = (l.filter k).map (repOf w size) := List.map_congr_left fun z hz => (hrest z (mem_of_filter hz) (hnot z (mem_of_filter hz))).2
      rw [List.filter_cons, if_neg (by simp [hk]), List.filter_cons, if_pos (by simp [upd]), List.map_cons, e1, e2]
      have e3 : repOf w (upd size y sz) y = ⟨w, y, 2, 1, sz⟩ := by simp [repOf, upd]
      rw [e3]
      cases hl : l.filter k with
      | nil => rfl
      | cons z t =>
        have hz : z ∈ l := mem_of_filter (by rw [hl]; simp)
        have := h1 z hz
        rw [List.map_cons, insertRep, if_neg (by simp only [repOf]; omega)]
    · have hxl : x ∈ l := by
        rcases List.mem_cons.1 hx with h | h
        · exact absurd h.symm e
        · exact h
      have hyx := h1 x hxl
      have e1 : upd k x true y = k y := by simp [upd, e]
      have e2 : repOf w (upd size x sz) y = repOf w size y := by simp [repOf, upd, e]
      rw [List.filter_cons, List.filter_cons, e1]
      by_cases hky : k y = true
      · rw [if_pos hky, if_pos hky, List.map_cons, List.map_cons, insertRep, if_pos (by simp only [repOf]; omega), ih h2 hxl, e2]
      · rw [if_neg hky, if_neg hky, ih h2 hxl]

theorem filter_tail (k : Nat → Bool) (L : List Nat) (hs : L.Pairwise (· < ·)) (a : Nat) (t : List Nat) (h : L.filter k = a :: t) : L.filter (upd k a false) = t := by
  induction L with
  | nil => simp at h
  | cons y l ih =>
    obtain ⟨h1, h2⟩ := List.pairwise_cons.1 hs
    rw [List.filter_cons] at h
    by_cases hk : k y = true
    · rw [if_pos hk] at h
      injection h with e1 e2
      subst e1
      rw [List.filter_cons, if_neg (by simp [upd]), ← e2]
      exact List.filter_congr fun z hz => by have := h1 z hz; simp [upd, show z ≠ y by omega]
    · rw [if_neg hk] at h
      have ha : a ∈ l := mem_of_filter (by rw [h]; simp)
      have := h1 a ha
      rw [List.filter_cons, if_neg (by simp [upd, show y ≠ a by omega, hk])]
      exact ih h2 h

theorem range12 : (List.range' 1 12).Pairwise (· < ·) := by decide
theorem mem_range12 {x : Nat} : x ∈ List.range' 1 12 ↔ 1 ≤ x ∧ x ≤ 12 := by
  rw [List.mem_range'_1]; omega
theorem mem_fl {k : Nat → Bool} {x : Nat} : x ∈ fl k ↔ (1 ≤ x ∧ x ≤ 12) ∧ k x = true := by
  unfold fl; rw [List.mem_filter, mem_range12]

structure St where
  ks : List Kep
  there : Nat → Nat → Bool
  kept : Nat → Nat → Bool
  size : Nat → Nat → Int
  gone : Nat → Nat
def St.bad (s : St) (who xid : Nat) : Bool := who == 16 || (xid == 0 || (decide (xid ≤ s.gone who) || s.kept who xid))
def St.least (s : St) (who xid : Nat) : List Nat := fl (upd (s.kept who) xid true)
def St.put (win : Nat) (s : St) (who xid : Nat) (sz : Int) : St :=
  if s.bad who xid then s else
  { ks := putK win ⟨who, xid, 2, 1, sz⟩ s.ks, there := upd2 s.there who xid true, size := upd2 s.size who xid sz,
    kept := if (s.least who xid).length > win then upd2 (upd2 s.kept who xid true) who ((s.least who xid).headD 0) false else upd2 s.kept who xid true,
    gone := if (s.least who xid).length > win then upd s.gone who ((s.least who xid).headD 0) else s.gone }
def St.start : St := ⟨[], fun _ _ => false, fun _ _ => false, fun _ _ => 0, fun _ => 0⟩

structure Inv (win : Nat) (s : St) : Prop where
  right : RightC win s.ks
  rel : ∀ c : Nat, c < 17 → clientOf s.ks c = ⟨c, s.gone c, rsOf c (s.kept c) (s.size c)⟩
  gone : ∀ c : Nat, s.gone c ≤ 12
  s0 : ∀ c x : Nat, 0 ≤ s.size c x
  s1 : ∀ c x : Nat, s.size c x ≤ 4
  there : ∀ c x : Nat, c < 17 → 1 ≤ x → x ≤ 12 → s.there c x = true → s.kept c x = true ∨ x ≤ s.gone c

theorem Inv.start (win : Nat) (h0 : 1 ≤ win) (h1 : win ≤ 8) : Inv win St.start :=
  ⟨⟨by omega, by omega, by simp [St.start], by simp [St.start]⟩, fun c _ => rfl, fun _ => Nat.zero_le _, fun _ _ => Int.le_refl _, fun _ _ => by show (0 : Int) ≤ 4; decide, fun _ _ _ _ _ h => by simp [St.start] at h⟩

theorem sortedX_lt (g : Int) (rs : List Rep) (h : SortedX g rs) : ∀ r ∈ rs, g < r.xid := by
  induction rs generalizing g with
  | nil => simp
  | cons a l ih =>
    intro r hr
    rcases List.mem_cons.1 hr with rfl | hr
    · exact h.1
    · have h1 := ih a.xid h.2 r hr; have h2 := h.1; omega
theorem clientOf_sorted {win : Int} {ks : List Kep} (h : RightC win ks) (c : Int) : SortedX (clientOf ks c).gone (clientOf ks c).rs := by
  unfold clientOf
  cases e : ks.find? (fun k => k.cl == c) with
  | none => trivial
  | some k =>
    have hk := h.each k (List.mem_of_find?_eq_some e)
    exact (up_iff k.cl k.gone k.rs).1 hk.up

theorem Inv.above {win : Nat} {s : St} (h : Inv win s) (c x : Nat) (hc : c < 17) (h1 : 1 ≤ x) (h2 : x ≤ 12) (hk : s.kept c x = true) : s.gone c < x := by
  have hs := clientOf_sorted h.right c
  rw [h.rel c hc] at hs
  have := sortedX_lt _ _ hs (repOf c (s.size c) x) (List.mem_map.2 ⟨x, mem_fl.2 ⟨⟨h1, h2⟩, hk⟩, rfl⟩)
  simp only [repOf] at this
  omega

/-- What a look finds, by the arrays. -/
def St.look (s : St) (c x : Nat) : Rep × Int := if s.kept c x then (repOf c (s.size c) x, 1) else if x ≤ s.gone c then (Rep.zero, 2) else (Rep.zero, 0)
theorem find_rs (w : Nat) (size : Nat → Int) (L : List Nat) (x : Nat) : (L.map (repOf w size)).find? (fun r => r.xid == (x : Int)) = if x ∈ L then some (repOf w size x) else none := by
  induction L with
  | nil => rfl
  | cons y l ih =>
    rw [List.map_cons, List.find?_cons]
    by_cases e : y = x
    · subst e; simp [repOf]
    · have : ((repOf w size y).xid == (x : Int)) = false := by simp only [repOf, beq_eq_false_iff_ne, ne_eq]; omega
      rw [this]
      simp only
      rw [ih]
      simp [show ¬ x = y from fun h => e h.symm]
theorem Inv.look {win : Nat} {s : St} (h : Inv win s) (c x : Nat) (hc : c < 17) (h1 : 1 ≤ x) (h2 : x ≤ 12) : look s.ks c x = s.look c x := by
  rw [look_clientOf _ _ _ (by omega), h.rel c hc]
  unfold Kep.look St.look rsOf
  simp only
  rw [find_rs]
  by_cases hk : s.kept c x = true
  · have ha := h.above c x hc h1 h2 hk
    rw [if_neg (by omega), if_pos (mem_fl.2 ⟨⟨h1, h2⟩, hk⟩), if_pos hk]
  · rw [if_neg (show ¬ x ∈ fl (s.kept c) from fun hh => hk (mem_fl.1 hh).2), if_neg hk]
    by_cases hg : x ≤ s.gone c
    · rw [if_pos (by omega), if_pos hg]
    · rw [if_neg (by omega), if_neg hg]

theorem not_bad {s : St} {who xid : Nat} (h : s.bad who xid = false) : who ≠ 16 ∧ xid ≠ 0 ∧ ¬ xid ≤ s.gone who ∧ s.kept who xid = false := by
  unfold St.bad at h
  simp only [Bool.or_eq_false_iff, beq_eq_false_iff_ne, decide_eq_false_iff_not] at h
  exact ⟨h.1, h.2.1, h.2.2.1, h.2.2.2⟩

theorem rep_fits (who xid : Nat) (sz : Int) (hw : who < 17) (hx : xid < 13) (h0 : 0 ≤ sz) (h1 : sz ≤ 4) : (⟨who, xid, 2, 1, sz⟩ : Rep).fits :=
  ⟨.inr ⟨rfl, rfl⟩, by simp only; omega, by simp only; omega, by simp only; omega, by simp only; omega, h0, by simp only; omega⟩

theorem Inv.put {win : Nat} {s : St} (h : Inv win s) (hwin : 1 ≤ win) (who xid : Nat) (sz : Int) (hw : who < 17) (hx : xid < 13) (h0 : 0 ≤ sz) (h1 : sz ≤ 4) : Inv win (s.put win who xid sz) := by
  unfold St.put
  cases hb : s.bad who xid with
  | true => rw [if_pos rfl]; exact h
  | false =>
    rw [if_neg (by simp)]
    obtain ⟨b1, b2, b3, b4⟩ := not_bad hb
    have hf := rep_fits who xid sz hw hx h0 h1
    have hrel := h.rel who hw
    have hxm : xid ∈ List.range' 1 12 := mem_range12.2 (by omega)
    have hins : insertRep ⟨who, xid, 2, 1, sz⟩ (rsOf who (s.kept who) (s.size who)) = rsOf who (upd (s.kept who) xid true) (upd (s.size who) xid sz) :=
      insert_filter who (s.kept who) (s.size who) xid sz b4 _ range12 hxm
    have hlen : (rsOf who (upd (s.kept who) xid true) (upd (s.size who) xid sz)).length = (s.least who xid).length := by unfold rsOf St.least; rw [List.length_map]
    have hright : RightC win (putK win ⟨who, xid, 2, 1, sz⟩ s.ks) := by
      refine putK_right h.right hf (by show (who : Int) < 16; omega) (by show (1 : Int) ≤ xid; omega) ?_ ?_
      · show (clientOf s.ks who).gone < (xid : Int)
        rw [hrel]; simp only; omega
      · show ∀ a ∈ (clientOf s.ks who).rs, a.xid ≠ (xid : Int)
        rw [hrel]
        intro a ha
        obtain ⟨y, hy, rfl⟩ := List.mem_map.1 ha
        have hy2 := (mem_fl.1 hy).2
        simp only [repOf]
        intro e
        have : y = xid := by omega
        subst this
        rw [b4] at hy2; cases hy2
    have hcl : ∀ c : Nat, c < 17 → clientOf (putK win ⟨who, xid, 2, 1, sz⟩ s.ks) c = if c = who then Kep.add win (clientOf s.ks who) ⟨who, xid, 2, 1, sz⟩ else clientOf s.ks c := fun c hc => by
      rw [clientOf_putK _ _ _ h.right.sorted]
      by_cases e : c = who
      · subst e; simp
      · rw [if_neg (by simp only; omega), if_neg e]
    have hadd : Kep.add win (clientOf s.ks who) ⟨who, xid, 2, 1, sz⟩ = if (s.least who xid).length > win then ⟨who, (s.least who xid).headD 0, rsOf who (upd (upd (s.kept who) xid true) ((s.least who xid).headD 0) false) (upd (s.size who) xid sz)⟩ else ⟨who, s.gone who, rsOf who (upd (s.kept who) xid true) (upd (s.size who) xid sz)⟩ := by
      unfold Kep.add
      rw [hrel]
      simp only
      rw [hins, hlen]
      by_cases hl : (s.least who xid).length > win
      · rw [if_pos (by omega), if_pos hl]
        cases e : s.least who xid with
        | nil => rw [e] at hl; simp at hl
        | cons a t =>
          have et := filter_tail _ _ range12 a t e
          have e2 : rsOf who (upd (s.kept who) xid true) (upd (s.size who) xid sz) = repOf who (upd (s.size who) xid sz) a :: t.map (repOf who (upd (s.size who) xid sz)) := by
            show (s.least who xid).map _ = _
            rw [e]; rfl
          rw [e2]
          simp only [List.headD_cons, repOf]
          unfold rsOf fl
          rw [et]
      · rw [if_neg (by omega), if_neg hl]
    have hhead : (s.least who xid).headD 0 ≤ 12 := by
      cases e : s.least who xid with
      | nil => simp
      | cons a t => have := (mem_fl.1 (show a ∈ s.least who xid by rw [e]; simp)).1; simpa using this.2
    refine ⟨hright, fun c hc => ?_, fun c => ?_, fun c x => ?_, fun c x => ?_, fun c x hc hx1 hx2 ht => ?_⟩
    · rw [hcl c hc]
      by_cases e : c = who
      · subst e
        rw [if_pos rfl, hadd]
        simp only
        by_cases hl : (s.least c xid).length > win
        · rw [if_pos hl, if_pos hl, if_pos hl, upd2_row, upd2_row, upd2_row]; simp [upd]
        · rw [if_neg hl, if_neg hl, if_neg hl, upd2_row, upd2_row]
      · rw [if_neg e, h.rel c hc]
        simp only
        by_cases hl : (s.least who xid).length > win
        · rw [if_pos hl, if_pos hl, upd2_other _ _ _ _ _ e, upd2_other _ _ _ _ _ e, upd2_other _ _ _ _ _ e]; simp [upd, e]
        · rw [if_neg hl, if_neg hl, upd2_other _ _ _ _ _ e, upd2_other _ _ _ _ _ e]
    · simp only
      split
      · unfold upd; split
        · exact hhead
        · exact h.gone c
      · exact h.gone c
    · simp only [upd2]; split
      · exact h0
      · exact h.s0 c x
    · simp only [upd2]; split
      · exact h1
      · exact h.s1 c x
    · simp only at ht ⊢
      by_cases e : c = who ∧ x = xid
      · obtain ⟨rfl, rfl⟩ := e
        split
        · generalize (s.least c x).headD 0 = L
          by_cases e2 : x = L
          · right; subst e2; simp [upd]
          · left; simp [upd2, e2]
        · left; simp [upd2]
      · have ht' : s.there c x = true := by simpa [upd2, e] using ht
        have hold := h.there c x hc hx1 hx2 ht'
        split
        · by_cases e3 : c = who
          · subst e3
            have ex : x ≠ xid := fun hh => e ⟨rfl, hh⟩
            rename_i hl
            cases eh : s.least c xid with
            | nil => rw [eh] at hl; simp at hl
            | cons a t =>
              have ha := mem_fl.1 (show a ∈ s.least c xid by rw [eh]; simp)
              simp only [List.headD_cons]
              by_cases e4 : x = a
              · right; simp [upd, e4]
              · rcases hold with h3 | h3
                · left; simp [upd2, e4, ex, h3]
                · right
                  simp only [upd, if_true]
                  by_cases e5 : a = xid
                  · subst e5; omega
                  · have h4 : s.kept c a = true := by have := ha.2; simpa [upd, e5] using this
                    have := h.above c a hc ha.1.1 ha.1.2 h4
                    omega
          · rcases hold with h3 | h3
            · left; simp [upd2, e3, h3]
            · right; simp [upd, e3, h3]
        · rcases hold with h3 | h3
          · left; simp [upd2, e, h3]
          · exact .inr h3
end Go.Proofs.Ytihfikepfhcboaa
