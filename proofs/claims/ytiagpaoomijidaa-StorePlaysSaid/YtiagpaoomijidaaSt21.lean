import Derived.Test.YtiagpaoomijidaaSt20
namespace Go.Proofs.Ytiagpaoomijidaa
open Go.RowKit Go.Proofs
set_option linter.unusedVariables false

theorem new_fresh (n : Int) (w : World) : Calls Try.prog 8 #[.int .i64 n] w fun e w' => e = .returned (.pointer (some ⟨w.heap.size, 0, none⟩)) ∧ w'.heap[w.heap.size]? = some (.cells #[.int .i64 (max 1 (min n 64)).toNat, .slice none 0 0] 51 (0, 0)) ∧ Below w.heap.size w w' := by
  have hc : ∀ k : Int, k = (max 1 (min n 64)).toNat → (w.alloc (.cells #[.int .i64 k, .slice none 0 0] 51)).heap[w.heap.size]? = some (.cells #[.int .i64 (max 1 (min n 64)).toNat, .slice none 0 0] 51 (0, 0)) := fun k hk => by
    rw [← hk]; show (w.heap.push _)[w.heap.size]? = _; simp
  have HC := Lib.hid hc
  clear hc
  go_enter Try.func8, Try.ntmps8
  go_wp2
  all_goals
    go_ret
    exact ⟨rfl, HC.out _ (by omega), (Below.refl _ _).alloc (Nat.le_refl _) _⟩
theorem store_empty {w : World} {base sb most : Nat} (h : w.heap[sb]? = some (.cells #[.int .i64 most, .slice none 0 0] 51 (0, 0))) : StoreAt w base sb most [] :=
  ⟨.slice none 0 0, [], h, trivial, .of_own (World.ownsRow_nil _ _ _ _), rfl, fun i x y hx _ => by simp at hx⟩
theorem StoreAt.kept {w w' : World} {base sb most : Nat} {l : List (Int × List UInt8)} (h : StoreAt w base sb most l) (k : World → Prop) (hk : ∀ i, i < w.heap.size → (∀ c, w.heap[i]? = some (.cells c 51 (0, 0)) → i = sb) → w'.heap[i]? = w.heap[i]?) : StoreAt w' base sb most l := by
  obtain ⟨sv, it, h1, h2, h3⟩ := h
  have hown : ∀ {e size v n xs}, e ≠ 51 → w.ownsRow base e size v n xs → w'.ownsRow base e size v n xs := fun {e size v n xs} he h => by
    refine ⟨h.1, ?_⟩
    rcases h.2 with h2 | ⟨g, cap, cur, h1, h2, h3, h4⟩
    · exact .inl h2
    · exact .inr ⟨g, cap, cur, h1, h2, by rw [hk g (Array.getElem?_eq_some_iff.1 h3).1 (fun c hc => by rw [h3] at hc; cases hc; exact absurd rfl he)]; exact h3, h4⟩
  refine ⟨sv, it, by rw [hk sb (Array.getElem?_eq_some_iff.1 h1).1 (fun _ _ => rfl)]; exact h1, h2, ⟨h3.row.1, ?_⟩, h3.len, fun i x y hx hy => ⟨(h3.pos i x y hx hy).1, hown (by decide) (h3.pos i x y hx hy).2⟩⟩
  rcases h3.row.2 with h2 | ⟨g, cap, cur, h1, h2, h3, h4⟩
  · exact .inl h2
  · exact .inr ⟨g, cap, cur, h1, h2, by rw [hk g (Array.getElem?_eq_some_iff.1 h3).1 (fun c hc => by rw [h3] at hc; cases hc)]; exact h3, h4⟩
/-- A store behind a Put to another one. -/
theorem StoreAt.other {w w' : World} {base sb most xb : Nat} {l : List (Int × List UInt8)} (h : StoreAt w base sb most l) (hx : ∃ c, w.heap[xb]? = some (.cells c 51 (0, 0))) (hne : xb ≠ sb) (hb : BelowX xb w.heap.size w w') : StoreAt w' base sb most l :=
  h.kept (fun _ => True) fun i hi hc => hb.block i hi (fun e => by subst e; obtain ⟨c, hc'⟩ := hx; exact hne (hc c hc')) (.inl hi)

theorem place_last {l : List (Int × List UInt8)} {q : Int} (h : ∀ x ∈ l, x.1 < q) : Place (posOf l) l.length q l.length :=
  ⟨Nat.le_refl _, fun t ht => by
    unfold posOf
    rw [List.getD_eq_getElem?_getD, List.getElem?_eq_getElem ht]
    exact h _ (List.getElem_mem _), fun t a b => by omega⟩
theorem rising_of {l : List (Int × List UInt8)} (h : l.Pairwise (fun a b => a.1 < b.1)) : Rising l := fun s t hs ht => by
  unfold posOf
  rw [List.getD_eq_getElem?_getD, List.getD_eq_getElem?_getD, List.getElem?_eq_getElem ht, List.getElem?_eq_getElem (by omega)]
  exact List.pairwise_iff_getElem.1 h s t (by omega) ht hs

/-- A Put whose place is known. -/
theorem put_at (i sb base most : Nat) (l l' : List (Int × List UInt8)) (q : Int) (bv : Value) (b : List UInt8) (w : World) (h : StoreAt w base sb most l) (hp : Place (posOf l) l.length q i) (he : putL most l q b i = l') (hm : 0 < most) (hq : 0 ≤ q) (hq2 : q ≤ 9223372036854775807)
    (hr : l.Pairwise (fun a b => a.1 < b.1)) (hrg : Ranged l) (hl : l.length ≤ 999) (hb : BytesIn w bv b) (hbl : b.length ≤ 140737488351232) (hbase : base ≤ w.heap.size) :
    Calls Try.prog 12 #[.pointer (some ⟨sb, 0, none⟩), .int .i64 q, bv] w fun e w' => e = .returned (.int .i64 0) ∧ BelowX sb base w w' ∧ StoreAt w' base sb most l' := by
  refine (put_any sb base most l q bv b w h hm hq hq2 (rising_of hr) hrg hl hb hbl hbase).mono ?_
  rintro e w' ⟨rfl, h1, j, hj, h2⟩
  rw [place_unique hj hp, he] at h2
  exact ⟨rfl, h1, h2⟩
theorem bytes_lit {w : World} (b : UInt8) (t : TypeId) : BytesIn (w.alloc (.cells #[byteV b] t)) (.slice (some ⟨w.heap.size, 0, none⟩) 1 1) [b] :=
  .inr ⟨⟨w.heap.size, 0, none⟩, 1, rfl, fun j u hu => by
    match j, hu with
    | 0, hu => simp at hu; subst hu; rw [addr_add, cell_new]; rfl
    | j + 1, hu => simp at hu⟩
theorem ints_lit {w : World} (l : List Int) (t : TypeId) (n : Nat) (hn : n = l.length) : IntsIn (w.alloc (.cells (l.map intV).toArray t)) (.slice (some ⟨w.heap.size, 0, none⟩) n n) l := by
  subst hn
  refine ⟨_, _, rfl, fun i hi => ⟨_, rfl, ?_⟩⟩
  rw [addr_add, cell_new, Nat.zero_add]
  simp [List.getElem?_map, List.getElem?_eq_getElem hi, List.getD_eq_getElem?_getD, intV]

def st : Nat → List (Int × List UInt8)
  | 0 => []
  | 1 => [(0, [0])]
  | 2 => [(0, [0]), (10, [10])]
  | 3 => [(0, [0]), (10, [10]), (20, [20])]
  | _ => [(0, [0]), (20, [20]), (30, [30])]
theorem st_put1 : putL 3 (st 0) 0 [0] 0 = st 1 := by decide
theorem st_put2 : putL 3 (st 1) 10 [10] 1 = st 2 := by decide
theorem st_put3 : putL 3 (st 2) 20 [20] 2 = st 3 := by decide
theorem st_put4 : putL 3 (st 3) 30 [30] 3 = st 4 := by decide
theorem st_put5 : putL 3 (st 4) 25 [] 2 = [(0, [0]), (20, [20]), (25, [])] := by decide
theorem x_put1 : putL 1 [] 5 [] 0 = [(5, [])] := by decide
theorem x_put2 : putL 1 [(5, [])] 7 [] 1 = [(5, [])] := by decide
theorem x_put3 : putL 1 [(5, [])] 3 [] 0 = [(3, [])] := by decide
end Go.Proofs.Ytiagpaoomijidaa
