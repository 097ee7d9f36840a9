import Derived.Test.YtiagpaoomijidaaSt32
import Derived.Laws.BytesArg
namespace Go.Proofs.Ytiagpaoomijidaa
open Go.RowKit Go.Proofs Go.Deep
set_option linter.unusedVariables false

/-- A row of bytes, whatever they are. -/
def Bytey (W : World) (g n : Nat) : Prop := ∃ cur, W.heap[g]? = some (.cells cur 5 (0, 0)) ∧ ∀ j, j < n → ∃ z : Int, cur[j]? = some (.int .u8 z)
theorem BytesAt.bytey {w : World} {base g c : Nat} {b : List UInt8} (h : BytesAt w base (.slice (some ⟨g, 0, none⟩) b.length c) b) : Bytey w g b.length := by
  rcases h.2 with ⟨h1, _⟩ | ⟨g', cap, cur, h1, h2, h3, h4, h5, h6, h7⟩
  · cases h1
  · cases h1
    refine ⟨cur, h3, fun j hj => ?_⟩
    have : (cur.toList.take (b.length * 1))[j]? = some (byteV b[j]) := by rw [h7]; simp [List.getElem?_eq_getElem hj]
    rw [List.getElem?_take] at this
    split at this
    · exact ⟨b[j].toNat, by simpa [byteV] using this⟩
    · cases this
theorem Bytey.lt {W : World} {g n : Nat} (h : Bytey W g n) : g < W.heap.size := by obtain ⟨cur, h1, _⟩ := h; exact (Array.getElem?_eq_some_iff.1 h1).1
theorem Bytey.cell {W : World} {g n k : Nat} (h : Bytey W g n) (hk : k < n) : ∃ z : Int, W.cell? ⟨g, k, none⟩ = some (.int .u8 z) := by
  obtain ⟨cur, h1, h2⟩ := h
  obtain ⟨z, hz⟩ := h2 k hk
  exact ⟨z, by rw [cell_block h1]; exact hz⟩
theorem Bytey.frozen {W : World} {g n k : Nat} (h : Bytey W g n) : W.frozen? ⟨g, k, none⟩ = false := by
  obtain ⟨cur, h1, h2⟩ := h
  simp [World.frozen?, h1]
theorem Bytey.set {W : World} {g n : Nat} (h : Bytey W g n) (k : Nat) (z : Int) : Bytey (W.setCell ⟨g, k, none⟩ (.int .u8 z)) g n := by
  obtain ⟨cur, h1, h2⟩ := h
  refine ⟨_, setCell_block h1, fun j hj => ?_⟩
  rw [Array.getElem?_setIfInBounds]
  split
  · rename_i e
    subst e
    obtain ⟨y, hy⟩ := h2 k hj
    rw [if_pos (Array.getElem?_eq_some_iff.1 hy).1]
    exact ⟨z, rfl⟩
  · exact h2 j hj
theorem Bytey.below {w w' : World} {g n : Nat} (h : Bytey w g n) (hb : Below w.heap.size w w') : Bytey w' g n := by
  have := h.lt
  obtain ⟨cur, h1, h2⟩ := h
  exact ⟨cur, by rw [hb.block g this]; exact h1, h2⟩

/-- 'string(b)' of bytes that are read somewhere. -/
theorem conv_back {w : World} {v : Value} {b : List UInt8} (h : BytesIn w v b) : (convert 36 9 v).run Try.prog w = .ok (.string ⟨b.toArray⟩) w := by
  rcases h with ⟨rfl, rfl⟩ | ⟨a, cap, rfl, h⟩
  · exact run_convert_bytes_nil w 36 5 Try.underlying36 Try.underlying5 0 0 9 Try.underlying9
  · exact run_convert_bytes_back w 36 9 5 a cap b Try.underlying36 Try.underlying5 Try.underlying9 fun j hj => h j _ (by simp [List.getElem?_eq_getElem hj, byteV])

theorem bytes_back (s : ByteArray) : (⟨s.data.toList.toArray⟩ : ByteArray) = s := by cases s; simp

/-- Floor at a position that is there. -/
theorem floor_kept {w : World} {B N may n i : Nat} {P : Nat → Int} {Q : Nat → ByteArray} {l : List (Int × List UInt8)} (S : StoreAt w B N may l) (hk : KeptL may P Q n l) (hm : 0 < may) (hm2 : may ≤ 64) (hi : i < l.length) :
    Calls Try.prog 13 #[.pointer (some ⟨N, 0, none⟩), .int .i64 (posOf l i)] w fun e w' => ∃ o m c, e = .returned (.tuple #[.int .i64 (posOf l i), .slice o m c, .bool true]) ∧
      Aside (∀ W, Below w'.heap.size w' W → (convert 36 9 (.slice o m c)).run Try.prog W = .ok (.string (lastP P Q (posOf l i) n)) W) ∧ Aside (∀ k, k < m → ∃ g, o = some ⟨g, 0, none⟩ ∧ w.heap.size ≤ g ∧ Bytey w' g m) ∧ m ≤ 140737488351232 ∧ Below w.heap.size w w' := by
  obtain ⟨least, hf⟩ := hk.first
  have hl := hf.len
  refine (floor_any N B may l (posOf l i) w S hm hf.rise (by omega) hk.small).mono ?_
  rintro e w' ⟨hb, ⟨hno, _⟩ | ⟨k, x, v', hx, hle, hgt, rfl, hv⟩⟩
  · have := hno i hi; omega
  · have hkl : k < l.length := (List.getElem?_eq_some_iff.1 hx).1
    have hpx : posOf l k = x.1 := by unfold posOf; rw [List.getD_eq_getElem?_getD, hx]; rfl
    have hki : k = i := by
      rcases Nat.lt_or_ge k i with h | h
      · have := hgt i h hi; omega
      · rcases Nat.lt_or_ge i k with h1 | h1
        · have := hf.rise i k h1 hkl; omega
        · omega
    subst hki
    have hlast := hk.last x (List.mem_of_getElem? hx)
    obtain ⟨o, c, rfl⟩ := hv.form
    refine ⟨o, _, c, by rw [hpx], ?_, ?_, hk.small x (List.mem_of_getElem? hx), hb⟩
    · intro W hW
      have := conv_back (bytes_keep hv hW).isIn
      rw [hlast, bytes_back] at this
      rw [hlast, this, hpx]
    · show ∀ k, k < x.2.length → _
      intro k hk
      obtain ⟨g, c', e⟩ := own_form hv (by omega)
      cases e
      refine ⟨g, rfl, ?_, hv.bytey⟩
      rcases hv.2 with ⟨h1, _⟩ | ⟨g', cap, cur, h1, h2, h3⟩
      · cases h1
      · cases h1; exact h2

/-- Bytes that came in. -/
theorem bytes_open {H : Type} {enc : TypeId × Value → H} {W : World} {base b0 : Nat} {r : Reach} {sp : Nat → Bool} {held : Bool} {v : Value} {d : DataW H} {ps : List MemPlace} (hval : Value.okWide Try.prog W r b0 36 v) (h : DataW.Trod enc Try.prog W base sp held 36 v d ps) :
    ∃ b : List UInt8, BytesIn W v b ∧ (b.length = 0 ∨ (∃ el sp, d = .slice el sp ∧ b.length = el.length)) := by
  obtain ⟨fuel, hf⟩ := h
  have hv : v.cells.toList = [v] := by
    cases v <;> first | rfl | (unfold Value.okWide Cell.okWide Cell.ok at hval; rw [Try.underlying36] at hval; simp at hval)
  rw [hv] at hf
  rcases open_slice1 (P := Try.prog) (t := 36) (e := 5) Try.underlying36 (by kernel_rfl) hf with ⟨e, _⟩ | ⟨a, len, cap, m, n, V, D, Pl, e, hb, hl, hm, hmm, hx', hx⟩
  · exact ⟨[], .inl ⟨(List.cons.inj e).1, rfl⟩, .inl rfl⟩
  · have hlm : len ≤ m := by rw [hmm]; split <;> omega
    have each : ∀ i, i < len → ∃ y : UInt8, W.cell? (a.add i) = some (byteV y) := fun i hi => by
      obtain ⟨h1, h2⟩ := hx i (by omega)
      obtain ⟨z, e1, _, hw⟩ := DataW.trod_int Try.underlying5 h2
      have hr : IntKind.min .u8 ≤ z ∧ z ≤ IntKind.max .u8 := by simpa [Lit.wf] using hw
      have h0 : IntKind.min .u8 = 0 := rfl
      have h255 : IntKind.max .u8 = 255 := rfl
      refine ⟨UInt8.ofNat z.toNat, ?_⟩
      rw [h1, (List.cons.inj e1).1]
      unfold byteV
      rw [UInt8.toNat_ofNat', show ((z.toNat % 2 ^ 8 : Nat) : Int) = z by omega]
    have hd := congrArg Prod.fst hx'
    simp only at hd
    refine ⟨(List.range len).map fun i => if hi : i < len then (each i hi).choose else 0, .inr ⟨a, cap, ?_, fun j u hu => ?_⟩, .inr ⟨_, _, hd, by simp⟩⟩
    · rw [(List.cons.inj e).1]; simp
    · have hj : j < len := by have := (List.getElem?_eq_some_iff.1 hu).1; simpa using this
      rw [(each j hj).choose_spec, ← hu]
      simp [List.getElem?_map, List.getElem?_range hj, dif_pos hj]

/-- A store behind a write to memory that it does not hold. -/
theorem StoreAt.low {w w' : World} {base sb most : Nat} {l : List (Int × List UInt8)} (h : StoreAt w base sb most l) (hs : w'.heap[sb]? = w.heap[sb]?) (hk : ∀ k, base ≤ k → w'.heap[k]? = w.heap[k]?) : StoreAt w' base sb most l := by
  obtain ⟨sv, it, h1, h2, h3⟩ := h
  refine ⟨sv, it, by rw [hs]; exact h1, h2, ⟨h3.row.1, ?_⟩, h3.len, fun i x y hx hy => ⟨(h3.pos i x y hx hy).1, ?_⟩⟩
  · rcases h3.row.2 with h4 | ⟨g, cap, cur, h4, h5, h6, h7⟩
    · exact .inl h4
    · exact .inr ⟨g, cap, cur, h4, h5, by rw [hk g h5]; exact h6, h7⟩
  · have hp := (h3.pos i x y hx hy).2
    refine ⟨hp.1, ?_⟩
    rcases hp.2 with h4 | ⟨g, cap, cur, h4, h5, h6, h7⟩
    · exact .inl h4
    · exact .inr ⟨g, cap, cur, h4, h5, by rw [hk g h5]; exact h6, h7⟩

theorem bytesIn_below {w w' : World} {B : Nat} {v : Value} {b : List UInt8} (h : BytesIn w v b) (hb : Below B w w') (hB : B = w.heap.size) : BytesIn w' v b := by
  subst hB
  rcases h with h | ⟨a, cap, rfl, h⟩
  · exact .inl h
  · exact .inr ⟨a, cap, rfl, fun j u hu => (hb.cell (World.block_lt_of_cell? w _ (h j u hu))).trans (h j u hu)⟩

/-- Put of the first bytes, at 0. -/
theorem put_one {w : World} {M : Nat} {v : Value} {b : List UInt8} (h : w.heap[M]? = some (.cells #[.int .i64 (5 : Nat), .slice none 0 0] 51 (0, 0))) (hb : BytesIn w v b) (hbl : b.length ≤ 140737488351232) :
    Calls Try.prog 12 #[.pointer (some ⟨M, 0, none⟩), .int .i64 0, v] w fun e w' => e = .returned (.int .i64 0) ∧ BelowX M w.heap.size w w' ∧ StoreAt w' w.heap.size M 5 [(0, b)] :=
  put_at 0 M w.heap.size 5 [] [(0, b)] 0 v b w (store_empty h) (place_last (by simp)) rfl (by decide) (by decide) (by decide) (by simp) (fun x hx => by simp at hx) (by simp) hb hbl (Nat.le_refl _)

/-- Floor where there is one. -/
theorem floor_one {w : World} {M B : Nat} {b : List UInt8} (S : StoreAt w B M 5 [(0, b)]) (hbl : b.length ≤ 140737488351232) :
    Calls Try.prog 13 #[.pointer (some ⟨M, 0, none⟩), .int .i64 0] w fun e w' => ∃ v, e = .returned (.tuple #[.int .i64 0, v, .bool true]) ∧ Aside ((convert 36 9 v).run Try.prog w' = .ok (.string ⟨b.toArray⟩) w') ∧ Below w.heap.size w w' := by
  refine (floor_any M B 5 [(0, b)] 0 w S (by decide) (rising_of (by simp)) (by simp) (fun x hx => by simp at hx; subst hx; exact hbl)).mono ?_
  rintro e w' ⟨hb, ⟨hno, _⟩ | ⟨k, x, v', hx, hle, hgt, rfl, hv⟩⟩
  · have := hno 0 (by simp); exact absurd this (by show ¬ (0 : Int) < 0; decide)
  · match k, hx with
    | 0, hx => cases hx; exact ⟨v', rfl, conv_back hv.isIn, hb⟩
    | k + 1, hx => simp at hx

/-- What the loop keeps that turns the bytes which were put. -/
structure TurnAt (wr W : World) (M B : Nat) (b : List UInt8) (o : Option Addr) : Prop where
  store : StoreAt W B M 5 [(0, b)]
  below : Below wr.heap.size wr W
  bytes : ∀ k, k < b.length → ∃ g, o = some ⟨g, 0, none⟩ ∧ wr.heap.size ≤ g ∧ g < B ∧ g ≠ M ∧ Bytey W g b.length
theorem TurnAt.set {wr W : World} {M B g : Nat} {b : List UInt8} (h : TurnAt wr W M B b (some ⟨g, 0, none⟩)) (h1 : wr.heap.size ≤ g) (h2 : g < B) (h3 : g ≠ M) (k : Nat) (z : Int) : TurnAt wr (W.setCell ⟨g, k, none⟩ (.int .u8 z)) M B b (some ⟨g, 0, none⟩) :=
  ⟨h.store.low (Below.heap_setCell _ _ _ _ (Ne.symm h3)) (fun k hk => Below.heap_setCell _ _ _ _ (by show k ≠ g; omega)), h.below.setCell h1 _, fun k hk => by
    obtain ⟨g', e, a1, a2, a3, a4⟩ := h.bytes k hk
    cases e
    exact ⟨g, rfl, a1, a2, a3, a4.set _ z⟩⟩
theorem turn_start {wr w4 w5 : World} {M base c : Nat} {o : Option Addr} {b : List UInt8} (hw : BytesAt w4 base (.slice o b.length c) b) (hb : wr.heap.size ≤ base) (hM : M < base) (hwr : wr.heap.size ≤ M) (hb4 : Below wr.heap.size wr w4) (hX : BelowX M w4.heap.size w4 w5) (hS : StoreAt w5 w4.heap.size M 5 [(0, b)]) : TurnAt wr w5 M w4.heap.size b o := by
  refine ⟨hS, hb4.trans (hX.under hb4.size hwr hb4.size), fun k hk => ?_⟩
  obtain ⟨g, c', e⟩ := own_form hw (by omega)
  cases e
  have hby := hw.bytey
  have hg : base ≤ g := by
    rcases hw.2 with ⟨h1, _⟩ | ⟨g', cap, cur, h1, h2, _⟩
    · cases h1
    · cases h1; exact h2
  refine ⟨g, rfl, by omega, hby.lt, by omega, ?_⟩
  obtain ⟨cur, h1, h2⟩ := hby
  have hgl : g < w4.heap.size := (Array.getElem?_eq_some_iff.1 h1).1
  exact ⟨cur, by rw [hX.block g hgl (by omega) (.inl hgl)]; exact h1, h2⟩
end Go.Proofs.Ytiagpaoomijidaa
