import Derived.Test.YtiagpaoomijidaaSt23
namespace Go.Proofs.Ytiagpaoomijidaa
open Go.RowKit Go.Proofs
set_option linter.unusedVariables false

theorem posOf_get {l : List (Int × List UInt8)} {t : Nat} (h : t < l.length) : posOf l t = l[t].1 := by
  unfold posOf
  rw [List.getD_eq_getElem?_getD, List.getElem?_eq_getElem h]; rfl
theorem scan_ne (l : List (Int × List UInt8)) (q : Int) : ∀ k, scanN l q k = -1 ∨ posOf l (scanN l q k).toNat ≠ q
  | 0 => .inl rfl
  | 1 => .inl rfl
  | k + 2 => by
    rw [scanN_succ l q (k + 1) (by omega)]
    unfold stepN
    split
    · rename_i h
      right
      rw [Int.toNat_natCast]; exact h.1
    · exact scan_ne l q (k + 1)
theorem scan_some (l : List (Int × List UInt8)) (q : Int) (t : Nat) (h1 : 1 ≤ t) (hq : posOf l t ≠ q) : ∀ k, t < k → 1 ≤ scanN l q k
  | 0, h => by omega
  | 1, h => by omega
  | k + 2, h => by
    rw [scanN_succ l q (k + 1) (by omega)]
    have hr := scanN_range l q (k + 1)
    by_cases ht : t = k + 1
    · subst ht
      unfold stepN
      split
      · omega
      · rename_i hn
        rcases hr with hr | hr
        · exact absurd ⟨hq, .inl (by omega)⟩ hn
        · exact hr.1
    · have := scan_some l q t h1 hq (k + 1) (by omega)
      unfold stepN
      split
      · omega
      · exact this

/-- What is there behind Puts of the first k multiples of d. -/
structure Spread (may : Nat) (d : Int) (k : Nat) (l : List (Int × List UInt8)) : Prop where
  len : l.length = min k may
  rise : l.Pairwise (fun a b => a.1 < b.1)
  mult : ∀ x ∈ l, ∃ j : Nat, j < k ∧ x.1 = (j : Int) * d
  first : 0 < l.length → posOf l 0 = 0
  last : 1 < may → ∀ k', k = k' + 1 → posOf l (l.length - 1) = (k' : Int) * d
  bytes : ∀ x ∈ l, x.2.length ≤ 1

theorem spread_nil (may : Nat) (d : Int) : Spread may d 0 [] := ⟨by simp, .nil, fun x hx => by simp at hx, fun h => by simp at h, fun _ k' h => by omega, fun x hx => by simp at hx⟩

theorem spread_put {may k : Nat} {d : Int} {l : List (Int × List UInt8)} {b : UInt8} (h : Spread may d k l) (hd : 1 ≤ d) (hm : 1 ≤ may) : Place (posOf l) l.length ((k : Int) * d) l.length ∧ Spread may d (k + 1) (putL may l ((k : Int) * d) [b] l.length) := by
  have hlt : ∀ x ∈ l, x.1 < (k : Int) * d := fun x hx => by
    obtain ⟨j, hj, e⟩ := h.mult x hx
    rw [e]
    exact Int.mul_lt_mul_of_pos_right (by omega) (by omega)
  have hp := place_last hlt
  refine ⟨hp, ?_⟩
  have e1 : moreL l ((k : Int) * d) [b] l.length = l ++ [((k : Int) * d, [b])] := by
    unfold moreL
    rw [List.take_length, List.drop_length]
  have hput : putL may l ((k : Int) * d) [b] l.length = if (l ++ [((k : Int) * d, [b])]).length ≤ may then l ++ [((k : Int) * d, [b])] else (l ++ [((k : Int) * d, [b])]).eraseIdx (goesL (l ++ [((k : Int) * d, [b])]) ((k : Int) * d) l.length) := by
    unfold putL grownL
    rw [if_neg (by omega), e1]
  rw [hput]
  generalize hl1 : l ++ [((k : Int) * d, [b])] = l1
  have hlen1 : l1.length = l.length + 1 := by rw [← hl1]; simp
  have rise1 : l1.Pairwise (fun a b => a.1 < b.1) := by
    rw [← hl1, List.pairwise_append]
    exact ⟨h.rise, List.pairwise_singleton _ _, fun x hx y hy => by simp at hy; rw [hy]; exact hlt x hx⟩
  have mult1 : ∀ x ∈ l1, ∃ j : Nat, j < k + 1 ∧ x.1 = (j : Int) * d := fun x hx => by
    rw [← hl1] at hx
    rcases List.mem_append.1 hx with hx | hx
    · obtain ⟨j, hj, e⟩ := h.mult x hx; exact ⟨j, by omega, e⟩
    · simp at hx; exact ⟨k, by omega, by rw [hx]⟩
  have by1 : ∀ x ∈ l1, x.2.length ≤ 1 := fun x hx => by
    rw [← hl1] at hx
    rcases List.mem_append.1 hx with hx | hx
    · exact h.bytes x hx
    · simp at hx; rw [hx]; simp
  have last1 : posOf l1 l.length = (k : Int) * d := by rw [posOf_get (by omega)]; simp [← hl1]
  have old1 : ∀ t, t < l.length → posOf l1 t = posOf l t := fun t ht => by
    rw [posOf_get (by omega), posOf_get ht]
    simp [← hl1, List.getElem_append_left ht]
  have first1 : posOf l1 0 = 0 := by
    by_cases h0 : l.length = 0
    · have := h.len
      have hk : k = 0 := by omega
      have := last1
      rw [h0, hk] at this
      simpa using this
    · rw [old1 0 (by omega)]; exact h.first (by omega)
  have hlen := h.len
  by_cases hc : l1.length ≤ may
  · rw [if_pos hc]
    exact ⟨by omega, rise1, mult1, fun _ => first1, fun _ k' hk' => by
      obtain rfl : k = k' := by omega
      rw [hlen1, Nat.add_sub_cancel]; exact last1, by1⟩
  · rw [if_neg hc]
    have hlm : l.length = may := by omega
    have sub : ∀ g, (l1.eraseIdx g).Pairwise (fun a b => a.1 < b.1) := fun g => rise1.sublist (List.eraseIdx_sublist l1 g)
    have mem : ∀ g x, x ∈ l1.eraseIdx g → x ∈ l1 := fun g x hx => (List.eraseIdx_sublist l1 g).subset hx
    have core : ∀ g, 1 ≤ g → g ≤ l.length → (1 < may → g < l.length) → Spread may d (k + 1) (l1.eraseIdx g) := fun g h1 h2 h3 => by
      have hle : (l1.eraseIdx g).length = may := by rw [List.length_eraseIdx_of_lt (by omega)]; omega
      refine ⟨by omega, sub g, fun x hx => mult1 x (mem g x hx), fun _ => ?_, fun hm2 k' hk' => ?_, fun x hx => by1 x (mem g x hx)⟩
      · rw [posOf_get (by omega), List.getElem_eraseIdx, dif_pos (by omega), ← posOf_get (by omega)]; exact first1
      · obtain rfl : k = k' := by omega
        have hg := h3 hm2
        rw [posOf_get (by omega), List.getElem_eraseIdx, dif_neg (by omega), ← posOf_get (by omega)]
        rw [show (l1.eraseIdx g).length - 1 + 1 = l.length by omega]; exact last1
    unfold goesL
    have hr := scanN_range l1 ((k : Int) * d) l1.length
    have hne := scan_ne l1 ((k : Int) * d) l1.length
    split
    · rename_i hneg
      refine core _ (by omega) (Nat.le_refl _) fun hm2 => ?_
      have : posOf l1 1 ≠ (k : Int) * d := by
        rw [old1 1 (by omega), posOf_get (by omega)]
        have := hlt l[1] (List.getElem_mem _)
        omega
      have := scan_some l1 _ 1 (Nat.le_refl _) this l1.length (by omega)
      omega
    · rename_i hneg
      rcases hr with hr | hr
      · omega
      · refine core _ (by omega) (by omega) fun _ => ?_
        rcases hne with hne | hne
        · omega
        · have : (scanN l1 ((k : Int) * d) l1.length).toNat ≠ l.length := fun e => by rw [e] at hne; exact hne last1
          omega
end Go.Proofs.Ytiagpaoomijidaa
