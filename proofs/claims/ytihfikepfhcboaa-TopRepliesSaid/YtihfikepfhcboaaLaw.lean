/- The plain law of TopReplies: a cache's data beside arrays of what was put. No memory in it. Conditions: each stands in its own theorem. -/
import Derived.Test.YtihfikepfhcboaaPutInv
namespace Go.Proofs.Ytihfikepfhcboaa

def clientOf (ks : List Kep) (c : Int) : Kep := (ks.find? (fun k => k.cl == c)).getD ⟨c, 0, []⟩

theorem look_clientOf (ks : List Kep) (c x : Int) (hx : 1 ≤ x) : look ks c x = (clientOf ks c).look x := by
  unfold look clientOf
  cases h : ks.find? (fun k => k.cl == c) with
  | none =>
    show (Rep.zero, 0) = Kep.look ⟨c, 0, []⟩ x
    unfold Kep.look
    simp only
    rw [if_neg (by omega)]
    rfl
  | some k => rfl

theorem Kep.add_cl (win : Int) (k : Kep) (r : Rep) : (Kep.add win k r).cl = k.cl := by
  unfold Kep.add
  split
  · split <;> rfl
  · rfl

def SortedC : List Kep → Prop := fun ks => ks.Pairwise (fun a b => a.cl < b.cl)
theorem RightC.sorted {win : Int} {ks : List Kep} (h : RightC win ks) : SortedC ks := by
  unfold SortedC
  rw [List.pairwise_iff_getElem]
  exact fun i j hi hj hij => h.up i j hij hj

theorem clientOf_cons (k : Kep) (l : List Kep) (c : Int) : clientOf (k :: l) c = if k.cl = c then k else clientOf l c := by
  unfold clientOf
  rw [List.find?_cons]
  by_cases h : k.cl = c
  · simp [h]
  · rw [if_neg h, show (k.cl == c) = false from by simpa using h]
theorem clientOf_none (l : List Kep) (c : Int) (h : ∀ k ∈ l, c < k.cl) : clientOf l c = ⟨c, 0, []⟩ := by
  induction l with
  | nil => rfl
  | cons k l ih =>
    rw [clientOf_cons, if_neg (by have := h k (by simp); omega)]
    exact ih fun k hk => h k (by simp [hk])

theorem clientOf_putK (win : Int) (r : Rep) (ks : List Kep) (hs : SortedC ks) (c : Int) : clientOf (putK win r ks) c = if c = r.cl then Kep.add win (clientOf ks c) r else clientOf ks c := by
  induction ks with
  | nil =>
    rw [putK, clientOf_cons, Kep.add_cl]
    by_cases h : c = r.cl
    · subst h; rw [if_pos rfl, if_pos rfl]; rfl
    · rw [if_neg h, if_neg (fun e => h e.symm)]
  | cons k l ih =>
    obtain ⟨h1, h2⟩ := List.pairwise_cons.1 hs
    rw [putK]
    by_cases a : k.cl < r.cl
    · rw [if_pos a, clientOf_cons, clientOf_cons, ih h2]
      by_cases b : k.cl = c
      · rw [if_pos b, if_pos b, if_neg (by omega)]
      · rw [if_neg b, if_neg b]
    · rw [if_neg a]
      by_cases e : k.cl = r.cl
      · rw [if_pos e, clientOf_cons, clientOf_cons, Kep.add_cl]
        by_cases b : k.cl = c
        · rw [if_pos b, if_pos b, if_pos (by omega)]
        · rw [if_neg b, if_neg b, if_neg (by omega)]
      · rw [if_neg e, clientOf_cons, Kep.add_cl]
        by_cases b : r.cl = c
        · rw [if_pos b, if_pos b.symm, ← b, clientOf_none (k :: l) r.cl (fun x hx => by
            rcases List.mem_cons.1 hx with rfl | hx
            · omega
            · have := h1 x hx; omega)]
        · rw [if_neg b, if_neg (fun e => b e.symm)]

/-- Rising numbers above g. -/
def SortedX : Int → List Rep → Prop
  | _, [] => True
  | g, r :: l => g < r.xid ∧ SortedX r.xid l
theorem up_iff (cl gone : Int) (rs : List Rep) : (∀ i (h : i < rs.length), Kep.last ⟨cl, gone, rs⟩ i < rs[i].xid) ↔ SortedX gone rs := by
  induction rs generalizing gone with
  | nil => exact ⟨fun _ => trivial, fun _ i h => by simp at h⟩
  | cons r l ih =>
    rw [SortedX, ← ih r.xid]
    constructor
    · intro h
      refine ⟨h 0 (by simp), fun i hi => ?_⟩
      have := h (i + 1) (by simpa using hi)
      cases i with
      | zero => simpa [Kep.last] using this
      | succ i => simpa [Kep.last] using this
    · rintro ⟨h1, h2⟩ i hi
      cases i with
      | zero => exact h1
      | succ i =>
        have := h2 i (by simpa using hi)
        cases i with
        | zero => simpa [Kep.last] using this
        | succ i => simpa [Kep.last] using this
theorem sortedX_insert (r : Rep) (g : Int) (rs : List Rep) (h : SortedX g rs) (hg : g < r.xid) (hne : ∀ a ∈ rs, a.xid ≠ r.xid) : SortedX g (insertRep r rs) := by
  induction rs generalizing g with
  | nil => exact ⟨hg, trivial⟩
  | cons a l ih =>
    rw [insertRep]
    have := hne a (by simp)
    by_cases b : a.xid < r.xid
    · rw [if_pos b]
      exact ⟨h.1, ih a.xid h.2 b fun x hx => hne x (by simp [hx])⟩
    · rw [if_neg b]
      exact ⟨hg, by omega, h.2⟩
theorem mem_insertRep (r : Rep) (rs : List Rep) (x : Rep) : x ∈ insertRep r rs ↔ x = r ∨ x ∈ rs := by
  induction rs with
  | nil => simp [insertRep]
  | cons a l ih =>
    rw [insertRep]
    split
    · simp only [List.mem_cons, ih]
      constructor
      · rintro (h | h | h)
        · exact .inr (.inl h)
        · exact .inl h
        · exact .inr (.inr h)
      · rintro (h | h | h)
        · exact .inr (.inl h)
        · exact .inl h
        · exact .inr (.inr h)
    · simp
theorem insertRep_len (r : Rep) (rs : List Rep) : (insertRep r rs).length = rs.length + 1 := by
  induction rs with
  | nil => rfl
  | cons a l ih => simp only [insertRep]; split <;> simp [ih]

theorem add_right {win : Int} {k : Kep} {r : Rep} (h : k.right win) (hw : 1 ≤ win) (hf : r.fits) (hcl : r.cl = k.cl) (hg : k.gone < r.xid) (hne : ∀ a ∈ k.rs, a.xid ≠ r.xid) : (Kep.add win k r).right win := by
  have hs := (up_iff k.cl k.gone k.rs).1 h.up
  have hs2 := sortedX_insert r k.gone k.rs hs hg hne
  have hlen := insertRep_len r k.rs
  have hfit : ∀ x ∈ insertRep r k.rs, x.fits ∧ x.cl = k.cl := fun x hx => by
    rcases (mem_insertRep r k.rs x).1 hx with rfl | hx
    · exact ⟨hf, hcl⟩
    · exact h.fits x hx
  have hl := h.len
  unfold Kep.add
  split
  · cases e : insertRep r k.rs with
    | nil => rw [e] at hlen; simp at hlen
    | cons a l =>
      rw [e] at hs2 hlen hfit
      simp only [List.length_cons] at hlen
      have ha := hfit a (by simp)
      have hg0 := h.g0
      have := hs2.1
      exact ⟨by show 0 ≤ a.xid; omega, ha.1.xid1, h.c0, h.c1, by show (l.length : Int) ≤ win; omega, fun x hx => hfit x (by simp [hx]), (up_iff k.cl a.xid l).2 hs2.2⟩
  · rename_i hle
    exact ⟨h.g0, h.g1, h.c0, h.c1, by show ((insertRep r k.rs).length : Int) ≤ win; omega, hfit, (up_iff k.cl k.gone _).2 hs2⟩

theorem mem_putK (win : Int) (r : Rep) (ks : List Kep) (x : Kep) (hx : x ∈ putK win r ks) : x ∈ ks ∨ x = Kep.add win ⟨r.cl, 0, []⟩ r ∨ ∃ k ∈ ks, k.cl = r.cl ∧ x = Kep.add win k r := by
  induction ks with
  | nil => rw [putK] at hx; exact .inr (.inl (by simpa using hx))
  | cons k l ih =>
    rw [putK] at hx
    split at hx
    · rcases List.mem_cons.1 hx with rfl | hx
      · exact .inl (by simp)
      · rcases ih hx with h | h | ⟨q, h1, h2⟩
        · exact .inl (by simp [h])
        · exact .inr (.inl h)
        · exact .inr (.inr ⟨q, by simp [h1], h2⟩)
    · split at hx
      · rename_i he
        rcases List.mem_cons.1 hx with rfl | hx
        · exact .inr (.inr ⟨k, by simp, he, rfl⟩)
        · exact .inl (by simp [hx])
      · rcases List.mem_cons.1 hx with rfl | hx
        · exact .inr (.inl rfl)
        · exact .inl hx
theorem putK_cls (win : Int) (r : Rep) (ks : List Kep) (x : Kep) (hx : x ∈ putK win r ks) : x.cl = r.cl ∨ ∃ k ∈ ks, k.cl = x.cl := by
  rcases mem_putK win r ks x hx with h | rfl | ⟨k, h1, h2, rfl⟩
  · exact .inr ⟨x, h, rfl⟩
  · exact .inl (Kep.add_cl _ _ _)
  · exact .inl (by rw [Kep.add_cl, h2])
theorem sorted_putK (win : Int) (r : Rep) (ks : List Kep) (hs : SortedC ks) : SortedC (putK win r ks) := by
  induction ks with
  | nil => exact List.pairwise_singleton _ _
  | cons k l ih =>
    obtain ⟨h1, h2⟩ := List.pairwise_cons.1 hs
    rw [putK]
    split
    · rename_i ha
      refine List.pairwise_cons.2 ⟨fun x hx => ?_, ih h2⟩
      rcases putK_cls win r l x hx with h | ⟨q, hq, h⟩
      · omega
      · rw [← h]; exact h1 q hq
    · split
      · exact List.pairwise_cons.2 ⟨fun x hx => by rw [Kep.add_cl]; exact h1 x hx, h2⟩
      · refine List.pairwise_cons.2 ⟨fun x hx => ?_, hs⟩
        rw [Kep.add_cl]
        show r.cl < x.cl
        rcases List.mem_cons.1 hx with rfl | hx
        · omega
        · have := h1 x hx; omega

/-- What is put keeps a cache right. -/
theorem putK_right {win : Int} {r : Rep} {ks : List Kep} (h : RightC win ks) (hf : r.fits) (hc : r.cl < 16) (hx : 1 ≤ r.xid) (hg : (clientOf ks r.cl).gone < r.xid) (hne : ∀ a ∈ (clientOf ks r.cl).rs, a.xid ≠ r.xid) : RightC win (putK win r ks) := by
  refine ⟨h.w0, h.w1, fun x hx' => ?_, fun i j hij hj => (List.pairwise_iff_getElem.1 (sorted_putK win r ks h.sorted)) i j (by omega) hj hij⟩
  rcases mem_putK win r ks x hx' with h1 | rfl | ⟨k, h1, h2, rfl⟩
  · exact h.each x h1
  · refine add_right ⟨by show (0 : Int) ≤ 0; decide, by show (0 : Int) ≤ 1000; decide, hf.cl0, hc, by have := h.w0; simp only [List.length_nil]; omega, by simp, fun i hi => by simp at hi⟩ h.w0 hf rfl (by show (0 : Int) < r.xid; omega) (by simp)
  · have e : clientOf ks r.cl = k := by
      unfold clientOf
      obtain ⟨q, hq, rfl⟩ := List.getElem_of_mem h1
      have := find_of_place ks Kep.cl r.cl q h.rising hq (by rw [keyAt_at hq]; exact h2)
      rw [this]; rfl
    rw [e] at hg hne
    exact add_right (h.each k h1) h.w0 hf h2.symm hg hne

theorem RightC.length_le {win : Int} {ks : List Kep} (h : RightC win ks) : ks.length ≤ 16 := by
  have key : ∀ i (hi : i < ks.length), (i : Int) ≤ ks[i].cl := by
    intro i
    induction i with
    | zero => intro hi; exact (h.each _ (List.getElem_mem hi)).c0
    | succ i ih =>
      intro hi
      have h1 := ih (by omega)
      have h2 := h.up i (i + 1) (by omega) hi
      omega
  rcases Nat.lt_or_ge 16 ks.length with hl | hl
  · have h1 := key 16 hl
    have h2 := (h.each _ (List.getElem_mem hl)).c1
    omega
  · exact hl

end Go.Proofs.Ytihfikepfhcboaa
