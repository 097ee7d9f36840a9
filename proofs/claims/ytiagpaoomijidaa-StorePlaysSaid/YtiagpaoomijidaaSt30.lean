import Derived.Test.YtiagpaoomijidaaSt29
namespace Go.Proofs.Ytiagpaoomijidaa
open Go.RowKit Go.Proofs
set_option linter.unusedVariables false

/-- What was put last at a position, of so many Puts. -/
def lastP (P : Nat → Int) (Q : Nat → ByteArray) (p : Int) : Nat → ByteArray
  | 0 => ⟨#[]⟩
  | k + 1 => if P k = p then Q k else lastP P Q p k

theorem place_mem {l : List (Int × List UInt8)} {q : Int} {i j : Nat} (hr : Rising l) (hp : Place (posOf l) l.length q i) (hj : j < l.length) (e : posOf l j = q) : j = i := by
  rcases Nat.lt_or_ge j i with h | h
  · have := hp.2.1 j h; omega
  · rcases Nat.lt_or_ge i j with h1 | h1
    · have h2 := hr i j h1 hj
      have h3 := hp.2.2 i (Nat.le_refl _) (by omega)
      omega
    · omega

theorem put_mem {may : Nat} {l : List (Int × List UInt8)} {q : Int} {b : List UInt8} {i : Nat} {x : Int × List UInt8} (hr : Rising l) (hp : Place (posOf l) l.length q i) (hx : x ∈ putL may l q b i) : x = (q, b) ∨ (x ∈ l ∧ x.1 ≠ q) := by
  unfold putL at hx
  split at hx
  · rename_i hi
    obtain ⟨j, hj, e⟩ := List.getElem_of_mem hx
    rw [List.getElem_set] at e
    have hj' : j < l.length := by simpa using hj
    split at e
    · exact .inl e.symm
    · rename_i hne
      refine .inr ⟨by rw [← e]; exact List.getElem_mem _, fun h => hne ?_⟩
      have : posOf l j = q := by rw [posOf_get hj', e]; exact h
      exact (place_mem hr hp hj' this).symm
  · rename_i hi
    have old : ∀ x ∈ l, x.1 ≠ q := fun x hx h => by
      obtain ⟨j, hj, e⟩ := List.getElem_of_mem hx
      have h2 : posOf l j = q := by rw [posOf_get hj, e]; exact h
      have := place_mem hr hp hj h2
      subst this
      exact hi ⟨hj, h2⟩
    have more : x ∈ moreL l q b i := by
      unfold grownL at hx
      split at hx
      · exact hx
      · exact (List.eraseIdx_sublist _ _).subset hx
    rcases List.mem_append.1 more with h1 | h1
    · have := List.mem_of_mem_take h1; exact .inr ⟨this, old x this⟩
    · rcases List.mem_cons.1 h1 with h1 | h1
      · exact .inl h1
      · have := List.mem_of_mem_drop h1; exact .inr ⟨this, old x this⟩

/-- What StoreKept says of the list. -/
structure KeptL (may : Nat) (P : Nat → Int) (Q : Nat → ByteArray) (k : Nat) (l : List (Int × List UInt8)) : Prop where
  first : ∃ least, First may least l
  last : ∀ x ∈ l, x.2 = (lastP P Q x.1 k).data.toList
  small : ∀ x ∈ l, x.2.length ≤ 140737488351232

theorem kept_nil (may : Nat) (P : Nat → Int) (Q : Nat → ByteArray) : KeptL may P Q 0 [] := ⟨⟨-1, first_nil may⟩, fun x h => by simp at h, fun x h => by simp at h⟩

theorem kept_neg {may : Nat} {P : Nat → Int} {Q : Nat → ByteArray} {k : Nat} {l : List (Int × List UInt8)} (h : KeptL may P Q k l) (hq : P k < 0) : KeptL may P Q (k + 1) l := by
  obtain ⟨least, hf⟩ := h.first
  refine ⟨h.first, fun x hx => ?_, h.small⟩
  have : P k ≠ x.1 := by have := (hf.ranged x hx).1; omega
  rw [lastP, if_neg this]
  exact h.last x hx

theorem kept_put {may : Nat} {P : Nat → Int} {Q : Nat → ByteArray} {k i : Nat} {l : List (Int × List UInt8)} (h : KeptL may P Q k l) (hq : 0 ≤ P k) (hq2 : P k ≤ 9223372036854775807) (hm : 1 ≤ may) (hs : (Q k).data.toList.length ≤ 140737488351232)
    (hp : Place (posOf l) l.length (P k) i) : KeptL may P Q (k + 1) (putL may l (P k) (Q k).data.toList i) := by
  obtain ⟨least, hf⟩ := h.first
  refine ⟨⟨_, first_put hf hq hq2 hm hp⟩, fun x hx => ?_, fun x hx => ?_⟩
  · rcases put_mem hf.rise hp hx with rfl | ⟨h1, h2⟩
    · rw [lastP, if_pos rfl]
    · rw [lastP, if_neg (fun e => h2 e.symm)]; exact h.last x h1
  · rcases put_mem hf.rise hp hx with rfl | ⟨h1, h2⟩
    · exact hs
    · exact h.small x h1

/-- A string's bytes, of a length that may be. -/
def ActsFit (n : Nat) (Q : Nat → ByteArray) : Prop := ∀ i, i < n → (Q i).data.toList.length ≤ 140737488351232

/-- One Put of the loop. -/
theorem kept_step {wr : World} {N may k : Nat} {P : Nat → Int} {Q : Nat → ByteArray} {l : List (Int × List UInt8)} (bv : Value) (hbv : BytesIn wr bv (Q k).data.toList) (hs : (Q k).data.toList.length ≤ 140737488351232) (S : StoreAt wr N N may l) (h : KeptL may P Q k l) (hm : 1 ≤ may) (hm2 : may ≤ 64) (hq2 : P k ≤ 9223372036854775807) :
    Calls Try.prog 12 #[.pointer (some ⟨N, 0, none⟩), .int .i64 (P k), bv] wr fun e w' => ∃ z, e = .returned (.int .i64 z) ∧ ∃ l', KeptL may P Q (k + 1) l' ∧ StoreAt w' N N may l' ∧ Below N wr w' := by
  have hN : N < wr.heap.size := by obtain ⟨c, hc⟩ := store_cells51 S; exact (Array.getElem?_eq_some_iff.1 hc).1
  by_cases hq : P k < 0
  · refine (put_arg N N may l _ (P k) wr S hm hq).mono ?_
    rintro e w' ⟨rfl, hb⟩
    exact ⟨_, rfl, l, kept_neg h hq, S.below hb, hb.mono (by omega)⟩
  · obtain ⟨least, hf⟩ := h.first
    have hl := hf.len
    refine (put_any N N may l (P k) _ _ wr S hm (by omega) hq2 hf.rise hf.ranged (by omega) hbv hs (by omega)).mono ?_
    rintro e w' ⟨rfl, hx, i, hp, S'⟩
    exact ⟨_, rfl, _, kept_put h (by omega) hq2 hm hs hp, S', hx.under (Nat.le_refl _) (Nat.le_refl _) (by omega)⟩

/-- What '[]byte(s)' lays. -/
theorem conv_bytes {w : World} (s : ByteArray) : ∃ c C fr, (convert 9 36 (.string s)).run Try.prog w = .ok (.slice (some ⟨w.heap.size, 0, none⟩) s.size c) (w.drew.alloc (.cells C 5 fr)) ∧ BytesIn (w.drew.alloc (.cells C 5 fr)) (.slice (some ⟨w.heap.size, 0, none⟩) s.size c) s.data.toList := by
  have hrun := run_bytes_of_string (P := Try.prog) w 9 36 5 s Try.underlying9 Try.underlying36 Try.underlying5
  generalize grownCap w s.size 0 5 = c at hrun
  refine ⟨c, _, _, hrun, .inr ⟨⟨w.heap.size, 0, none⟩, c, rfl, fun j u hu => ?_⟩⟩
  rw [addr_add, Nat.zero_add]
  refine (World.cell?_alloc_mark w.drew (bytesRow s c) 5 _ j).trans ?_
  unfold bytesRow
  have hj : j < s.data.size := by have := (List.getElem?_eq_some_iff.1 hu).1; simpa using this
  rw [Array.getElem?_append_left (by simpa using hj), ← hu]
  simp
  rfl
end Go.Proofs.Ytiagpaoomijidaa
