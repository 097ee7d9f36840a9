import Derived.Test.YtiagpaoomijidaaSt25
namespace Go.Proofs.Ytiagpaoomijidaa
open Go.RowKit Go.Proofs
set_option linter.unusedVariables false

theorem rising_iff {l : List (Int × List UInt8)} : Rising l ↔ l.Pairwise (fun a b => a.1 < b.1) := by
  constructor
  · intro h
    rw [List.pairwise_iff_getElem]
    intro s t hs ht hst
    have := h s t hst ht
    rwa [posOf_get hs, posOf_get ht] at this
  · exact rising_of

theorem more_pos {l : List (Int × List UInt8)} {q : Int} {b : List UInt8} {i t : Nat} (hi : i ≤ l.length) (ht : t ≤ l.length) : posOf (moreL l q b i) t = if t < i then posOf l t else if t = i then q else posOf l (t - 1) := by
  have hm : (moreL l q b i)[t]? = if t < i then l[t]? else if t = i then some (q, b) else l[t - 1]? := more_get l (q, b) i t hi
  unfold posOf
  rw [List.getD_eq_getElem?_getD, hm]
  split
  · rw [List.getD_eq_getElem?_getD]
  · split
    · rfl
    · rw [List.getD_eq_getElem?_getD]

theorem more_rising {l : List (Int × List UInt8)} {q : Int} {b : List UInt8} {i : Nat} (hr : Rising l) (hp : Place (posOf l) l.length q i) (hn : ¬ (i < l.length ∧ posOf l i = q)) : Rising (moreL l q b i) := fun s t hs ht => by
  have hlen : (moreL l q b i).length = l.length + 1 := more_len _ _ _ hp.1
  rw [hlen] at ht
  rw [more_pos hp.1 (by omega), more_pos hp.1 (by omega)]
  have ge : ∀ t, i ≤ t → t < l.length → q < posOf l t := fun t h1 h2 => by
    have h3 := hp.2.2 t h1 h2
    rcases Nat.lt_or_ge i t with h | h
    · have := hr i t h h2
      have := hp.2.2 i (Nat.le_refl _) (by omega)
      omega
    · obtain rfl : t = i := by omega
      have : posOf l t ≠ q := fun e => hn ⟨h2, e⟩
      omega
  by_cases c1 : t < i
  · rw [if_pos c1, if_pos (by omega)]; exact hr s t hs (by have := hp.1; omega)
  · rw [if_neg c1]
    by_cases c2 : t = i
    · subst c2
      rw [if_pos rfl, if_pos hs]; exact hp.2.1 s hs
    · rw [if_neg c2]
      by_cases c3 : s < i
      · rw [if_pos c3]; exact Int.lt_trans (hp.2.1 s c3) (ge (t - 1) (by omega) (by omega))
      · rw [if_neg c3]
        by_cases c4 : s = i
        · rw [if_pos c4]; exact ge (t - 1) (by omega) (by omega)
        · rw [if_neg c4]; exact hr (s - 1) (t - 1) (by omega) (by omega)

theorem goes_range {l : List (Int × List UInt8)} {q : Int} {i : Nat} (hr : Rising l) (hi : i < l.length) (hq : posOf l i = q) (h2 : 2 ≤ l.length) : 1 ≤ goesL l q i ∧ goesL l q i < l.length := by
  unfold goesL
  have hs := scanN_range l q l.length
  split
  · rename_i hneg
    refine ⟨?_, hi⟩
    rcases Nat.eq_zero_or_pos i with h0 | h0
    · subst h0
      have : posOf l 1 ≠ q := by have := hr 0 1 (by omega) (by omega); omega
      have := scan_some l q 1 (Nat.le_refl _) this l.length (by omega)
      omega
    · exact h0
  · omega

/-- What StoreFirst says of the list. -/
structure First (may : Nat) (least : Int) (l : List (Int × List UInt8)) : Prop where
  rise : Rising l
  ranged : Ranged l
  len : l.length ≤ may
  none : l.length = 0 ↔ least < 0
  first : 0 < l.length → posOf l 0 = least

theorem first_nil (may : Nat) : First may (-1) [] := ⟨fun s t _ h => by simp at h, fun x h => by simp at h, by simp, by simp, fun h => by simp at h⟩

theorem first_put {may : Nat} {least q : Int} {l : List (Int × List UInt8)} {b : List UInt8} {i : Nat} (h : First may least l) (hq : 0 ≤ q) (hq2 : q ≤ 9223372036854775807) (hm : 1 ≤ may) (hp : Place (posOf l) l.length q i) :
    First may (if least < 0 ∨ q < least then q else least) (putL may l q b i) := by
  unfold putL
  by_cases hi : i < l.length ∧ posOf l i = q
  · rw [if_pos hi]
    have hl : least = posOf l 0 := (h.first (by omega)).symm
    have hpos : ∀ t, t < l.length → posOf (l.set i (q, b)) t = posOf l t := fun t ht => by
      rw [posOf_get (by simpa using ht), List.getElem_set]
      split
      · rename_i e; subst e; exact hi.2.symm
      · rw [posOf_get ht]
    have hnl : ¬ (least < 0 ∨ q < least) := by
      have h1 : ¬ least < 0 := fun e => by have := h.none.2 e; omega
      rcases Nat.eq_zero_or_pos i with h0 | h0
      · subst h0; omega
      · have := h.rise 0 i h0 hi.1; omega
    rw [if_neg hnl]
    refine ⟨fun s t hs ht => ?_, fun x hx => ?_, by simpa using h.len, by simpa using h.none, fun h0 => ?_⟩
    · have ht' : t < l.length := by simpa using ht
      rw [hpos s (by omega), hpos t ht']; exact h.rise s t hs ht'
    · rcases List.mem_or_eq_of_mem_set hx with h1 | h1
      · exact h.ranged x h1
      · subst h1; exact ⟨hq, hq2⟩
    · have h0' : 0 < l.length := by simpa using h0
      rw [hpos 0 h0']; exact h.first h0'
  · rw [if_neg hi]
    have hr1 := more_rising (b := b) h.rise hp hi
    have hlen : (moreL l q b i).length = l.length + 1 := more_len _ _ _ hp.1
    have hrg1 : Ranged (moreL l q b i) := fun x hx => by
      rcases List.mem_append.1 hx with h1 | h1
      · exact h.ranged x (List.mem_of_mem_take h1)
      · rcases List.mem_cons.1 h1 with rfl | h1
        · exact ⟨hq, hq2⟩
        · exact h.ranged x (List.mem_of_mem_drop h1)
    have hi1 : posOf (moreL l q b i) i = q := by rw [more_pos hp.1 hp.1, if_neg (by omega), if_pos rfl]
    have hfirst : posOf (moreL l q b i) 0 = if least < 0 ∨ q < least then q else least := by
      rw [more_pos hp.1 (by omega)]
      by_cases h0 : l.length = 0
      · have := h.none.1 h0
        have := hp.1
        have hn : least < 0 ∨ q < least := .inl (by omega)
        rw [if_neg (show ¬ 0 < i by omega), if_pos (show 0 = i by omega), if_pos hn]
      · have hf := h.first (by omega)
        have hnn : ¬ least < 0 := fun e => h0 (h.none.2 e)
        rcases Nat.eq_zero_or_pos i with e | e
        · subst e
          rw [if_neg (by omega), if_pos rfl]
          have h1 := hp.2.2 0 (Nat.le_refl _) (by omega)
          have h2 : posOf l 0 ≠ q := fun e => hi ⟨by omega, e⟩
          rw [if_pos (.inr (by omega))]
        · rw [if_pos e]
          have := hp.2.1 0 e
          rw [if_neg (by omega)]; exact hf
    have hnew : ¬ (if least < 0 ∨ q < least then q else least) < 0 := by split <;> omega
    unfold grownL
    generalize moreL l q b i = l1 at *
    by_cases hc : l1.length ≤ may
    · rw [if_pos hc]
      exact ⟨hr1, hrg1, hc, ⟨fun e => by omega, fun e => absurd e hnew⟩, fun _ => hfirst⟩
    · rw [if_neg hc]
      have hlm := h.len
      obtain ⟨g1, g2⟩ := goes_range hr1 (i := i) (by have := hp.1; omega) hi1 (by omega)
      generalize goesL l1 q i = g at *
      have hle : (l1.eraseIdx g).length = l.length := by rw [List.length_eraseIdx_of_lt g2]; omega
      refine ⟨rising_iff.2 ((rising_iff.1 hr1).sublist (List.eraseIdx_sublist l1 g)), fun x hx => hrg1 x ((List.eraseIdx_sublist l1 g).subset hx), by omega, ⟨fun e => by omega, fun e => absurd e hnew⟩, fun _ => ?_⟩
      rw [posOf_get (by omega), List.getElem_eraseIdx, dif_pos (by omega), ← posOf_get (by omega)]; exact hfirst
end Go.Proofs.Ytiagpaoomijidaa
