import Derived.Test.YtiagpaoomijidaaSt24
import Derived.Laws.Closers25b
namespace Go.Proofs.Ytiagpaoomijidaa
open Go.RowKit Go.Proofs
set_option linter.unusedVariables false

theorem Spread.ranged {may k : Nat} {d : Int} {l : List (Int × List UInt8)} (h : Spread may d k l) (hd : 1 ≤ d) (hd2 : d ≤ 1000000) (hk : k ≤ 400) : Ranged l := fun x hx => by
  obtain ⟨j, hj, e⟩ := h.mult x hx
  rw [e]
  have h1 : (0 : Int) ≤ (j : Int) * d := Int.mul_nonneg (by omega) (by omega)
  have h2 : (j : Int) * d ≤ 400 * 1000000 := Int.mul_le_mul (by omega) hd2 (by omega) (by omega)
  omega

/-- One Put of the loop. -/
theorem spread_step {wr : World} {N may k : Nat} {d : Int} {l : List (Int × List UInt8)} (b : UInt8) (S : StoreAt wr N N may l) (h : Spread may d k l) (hd : 1 ≤ d) (hd2 : d ≤ 1000000) (hm : 1 ≤ may) (hm2 : may ≤ 64) (hk : k < 400) (q : Int) (hq : q = (k : Int) * d) :
    Calls Try.prog 12 #[.pointer (some ⟨N, 0, none⟩), .int .i64 q, .slice (some ⟨wr.heap.size, 0, none⟩) 1 1] (wr.alloc (.cells #[.int .u8 (b.toNat : Int)] 5)) fun e w' => e = .returned (.int .i64 0) ∧ ∃ l', Spread may d (k + 1) l' ∧ StoreAt w' N N may l' ∧ Below N wr w' := by
  subst hq
  obtain ⟨hp, h'⟩ := spread_put (b := b) h hd hm
  have hN : N < wr.heap.size := by obtain ⟨c, hc⟩ := store_cells51 S; exact (Array.getElem?_eq_some_iff.1 hc).1
  have ha : Below wr.heap.size wr (wr.alloc (.cells #[byteV b] 5)) := (Below.refl _ _).alloc (Nat.le_refl _) _
  have h0 : (0 : Int) ≤ (k : Int) * d := Int.mul_nonneg (by omega) (by omega)
  have h2 : (k : Int) * d ≤ 400 * 1000000 := Int.mul_le_mul (by omega) hd2 (by omega) (by omega)
  have hl := h.len
  refine (put_at l.length N N may l _ ((k : Int) * d) _ [b] _ (S.below ha) hp rfl (by omega) h0 (by omega) h.rise (h.ranged hd hd2 (by omega)) (by omega) (bytes_lit b 5) (by simp) (by have := ha.size; omega)).mono ?_
  rintro e w' ⟨rfl, hx, S'⟩
  exact ⟨rfl, _, h', S', (ha.mono (by omega)).trans (hx.under (Nat.le_refl _) (Nat.le_refl _) (by have := ha.size; omega))⟩

theorem u8_wrap (k : Nat) : ∃ b : UInt8, IntKind.u8.wrap (k : Int) = (b.toNat : Int) := by
  refine ⟨UInt8.ofNat (IntKind.u8.wrap (k : Int)).toNat, ?_⟩
  have h : 0 ≤ IntKind.u8.wrap (k : Int) ∧ IntKind.u8.wrap (k : Int) < 256 := by
    have := wrap_within .u8 (k : Int)
    have h1 : IntKind.min .u8 = 0 := rfl
    have h2 : IntKind.max .u8 = 255 := rfl
    omega
  rw [UInt8.toNat_ofNat']
  omega

theorem spread_rem {may k : Nat} {d : Int} {l : List (Int × List UInt8)} (h : Spread may d k l) (t : Nat) (ht : t < l.length) : Int.tmod (posOf l t) d = 0 := by
  obtain ⟨j, _, e⟩ := h.mult l[t] (List.getElem_mem _)
  rw [posOf_get ht, e]
  exact Int.mul_tmod_left _ _
theorem spread_gap {may k : Nat} {d : Int} {l : List (Int × List UInt8)} (h : Spread may d k l) (hd : 1 ≤ d) (t : Nat) (ht : t + 1 < l.length) : d ≤ posOf l (t + 1) - posOf l t := by
  obtain ⟨j, _, e⟩ := h.mult l[t] (List.getElem_mem _)
  obtain ⟨j2, _, e2⟩ := h.mult l[t + 1] (List.getElem_mem _)
  have hr := List.pairwise_iff_getElem.1 h.rise t (t + 1) (by omega) ht (by omega)
  rw [posOf_get ht, posOf_get (by omega), e, e2]
  rw [e, e2] at hr
  have hj : (j : Int) < (j2 : Int) := Int.lt_of_mul_lt_mul_right hr (by omega)
  have : ((j : Int) + 1) * d ≤ (j2 : Int) * d := Int.mul_le_mul_of_nonneg_right (by omega) (by omega)
  rw [Int.add_mul] at this
  omega
/-- What All tells of a store that holds something, place by place. -/
theorem all_row {w : World} {B N most : Nat} {l : List (Int × List UInt8)} (S : StoreAt w B N most l) (hm : 0 < most) (hl : l.length ≤ 1000) (h0 : 0 < l.length) : Calls Try.prog 16 #[.pointer (some ⟨N, 0, none⟩)] w fun e w' => ∃ g c, e = .returned (.slice (some ⟨g, 0, none⟩) l.length c) ∧ Aside (g < w'.heap.size ∧ ∀ i, i < l.length → w'.cell? ⟨g, i, none⟩ = some (.int .i64 (posOf l i))) ∧ Below w.heap.size w w' := by
  refine (all_of S hm hl).mono ?_
  rintro e w' ⟨v, rfl, hi, hb⟩
  obtain ⟨g, c, rfl⟩ := own_form hi (by simpa using h0)
  have hc : ∀ i, i < l.length → w'.cell? ⟨g, i, none⟩ = some (.int .i64 (posOf l i)) := fun i hi' => by
    have := World.ownsRow.cells hi rfl i (.int .i64 (posOf l i)) (by rw [posOf_get hi']; simp [intV, List.getElem?_eq_getElem hi'])
    rwa [addr_add, Nat.zero_add] at this
  exact ⟨g, c, by simp, ⟨World.block_lt_of_cell? w' _ (hc 0 h0), hc⟩, hb⟩

set_option maxRecDepth 100000 in
set_option maxHeartbeats 2000000 in
theorem spread_main (most d : Int) (n : Nat) (w : World) (hn : 2 ≤ n) (hn2 : n ≤ 400) (hd : 1 ≤ d) (hd2 : d ≤ 1000000) : Calls Try.prog 6 #[.int .i64 most, .int .i64 (n : Int), .int .i64 d] w fun e w' => e = .returned (.bool true) ∧ Below w.heap.size w w' := by
  have hn1 : ¬ (n : Int) < 2 := by omega
  have hn3 : ¬ (400 : Int) < (n : Int) := by omega
  have hd3 : ¬ d < 1 := by omega
  have hd4 : ¬ 1000000 < d := by omega
  go_enter Try.func6, Try.ntmps6
  go_wp2_with (first
    | (go_at_call 8; with_reducible refine (new_fresh most _).mono ?_; rintro e w1 ⟨rfl, hst1, hb1⟩))
  obtain ⟨N, hN⟩ : ∃ N, N = w.heap.size := ⟨_, rfl⟩
  obtain ⟨may, hmay⟩ : ∃ may, may = (max 1 (min most 64)).toNat := ⟨_, rfl⟩
  rw [← hN] at hst1 ⊢
  rw [← hmay] at hst1
  have hm1 : 1 ≤ may := by omega
  have hm2 : may ≤ 64 := by omega
  have S1 : StoreAt w1 N N may [] := store_empty hst1
  have HNw := Lib.hid hN
  have HB1 := Lib.hid hb1
  have HM := Lib.hid hmay
  clear hst1 hb1 hN hmay
  go_loopg [8] n (fun kx s8 wr => ∃ k : Nat, s8 = .int .i64 k ∧ k ≤ n ∧ n - k ≤ kx ∧ Aside (∃ l, Spread may d k l ∧ StoreAt wr N N may l ∧ Below N w1 wr))
  case atStart => exact ⟨0, rfl, by omega, by omega, ([] : List (Int × List UInt8)), spread_nil _ _, S1, Below.refl _ _⟩
  case round =>
    obtain ⟨k, rfl, hk, hg, L⟩ := hrel
    obtain ⟨l, hs, S, hbl⟩ := L.out
    by_cases hkn : k < n
    · obtain ⟨b, hu⟩ := u8_wrap k
      obtain ⟨q, hq⟩ : ∃ q, q = (k : Int) * d := ⟨_, rfl⟩
      have hwq : IntKind.i64.wrap ((k : Int) * d) = q := by
        have h0 : (0 : Int) ≤ (k : Int) * d := Int.mul_nonneg (by omega) (by omega)
        have h2 : (k : Int) * d ≤ 400 * 1000000 := Int.mul_le_mul (by omega) hd2 (by omega) (by omega)
        rw [IntWalk.i64_in _ (by omega), hq]
      have C := Lib.hid (spread_step b S hs hd hd2 hm1 hm2 (by omega) q hq)
      have HBL := Lib.hid hbl
      clear S hs hbl hq L S1
      go_wp2_with (first
        | (go_at_call 12; with_reducible refine C.out.mono ?_; rintro e w5 ⟨rfl, l', hs', S', hb5⟩))
      go_roundg (n - (k + 1))
      case measure => omega
      case rel => exact ⟨k + 1, by go_num, by omega, Nat.le_refl _, l', hs', S', HBL.out.trans hb5⟩
    · obtain rfl : k = n := by omega
      have hlen := hs.len
      have h0 : 0 < l.length := by omega
      have C := Lib.hid (all_row S (by omega) (by omega) h0)
      have HS := Lib.hid hs
      have HBL := Lib.hid hbl
      clear hs S hbl L S1
      have hmx : max 1 (min most 64) = (may : Int) := by have := HM.out; omega
      have hfirst : posOf l 0 = 0 := HS.out.first h0
      obtain ⟨k', hk'⟩ : ∃ k', k = k' + 1 := ⟨k - 1, by omega⟩
      obtain ⟨m', hm'⟩ : ∃ m', l.length = m' + 1 := ⟨l.length - 1, by omega⟩
      obtain ⟨q2, hq2⟩ : ∃ q2, q2 = (k' : Int) * d := ⟨_, rfl⟩
      have hwq : IntKind.i64.wrap (((k : Int) - 1) * d) = q2 := by
        have h0 : (0 : Int) ≤ (k' : Int) * d := Int.mul_nonneg (by omega) (by omega)
        have h2 : (k' : Int) * d ≤ 400 * 1000000 := Int.mul_le_mul (by omega) hd2 (by omega) (by omega)
        rw [show (k : Int) - 1 = (k' : Int) by omega, IntWalk.i64_in _ (by omega), hq2]
      have hlast : 1 < may → posOf l m' = q2 := fun h => by
        have := HS.out.last h k' hk'
        rw [hm', Nat.add_sub_cancel] at this
        rw [this, hq2]
      have hmn : min (k : Int) (may : Int) = (m' : Int) + 1 := by omega
      have HL := Lib.hid hlast
      have HK := Lib.hid hk'
      have HLEN := Lib.hid hlen
      have HM' := Lib.hid hm'
      have HF := Lib.hid hfirst
      rw [hm'] at C h0
      clear hlast hk' hlen hfirst hq2 hm'
      by_cases hmay : 1 < may
      · have hmay' : (1 : Int) < (may : Int) := by omega
        go_wp2_with (first
          | (go_at_call 16; with_reducible refine C.out.mono ?_; rintro e w5 ⟨g5, c5, rfl, hc5, hb5⟩; have q0 := hc5.out.2 0 h0; rw [HF.out] at q0; have qL := hc5.out.2 m' (by omega); rw [HL.out hmay] at qL))
        have HALL : Hid (Below N w w5) := Lib.hid (by
          have e := HNw.out
          have s1 := HB1.out.size
          have s2 := HBL.out.size
          exact (HB1.out.mono (by omega)).trans (HBL.out.trans (hb5.mono (by omega))))
        have HC5 := Lib.hid hc5.out
        clear hb5 hc5 HBL HB1 C
        go_loopg [11] (m' + 1) (fun kx s11 W => ∃ t : Nat, s11 = .int .i64 t ∧ t ≤ m' + 1 ∧ m' + 1 - t ≤ kx ∧ Aside (Below w5.heap.size w5 W))
        case atStart => exact ⟨0, rfl, by omega, by omega, Below.refl _ _⟩
        case round =>
          obtain ⟨t, rfl, ht, hg, hbt⟩ := hrel
          by_cases hlt : t < m' + 1
          · have c1 := (hbt.out.cell (p := ⟨g5, t, none⟩) HC5.out.1).trans (HC5.out.2 t hlt)
            have hr := spread_rem HS.out t (by have := HM'.out; omega)
            rcases t with _ | t
            · generalize posOf l 0 = p1 at *
              go_wp2_with fail
              go_quiet (fail)
              go_wp2
              go_roundg m'
              case measure => omega
              case rel => exact ⟨1, by go_num, by omega, by omega, below_drewN hbt.out⟩
            · have c2 := (hbt.out.cell (p := ⟨g5, t, none⟩) HC5.out.1).trans (HC5.out.2 t (by omega))
              have hgap := spread_gap HS.out hd t (by have := HM'.out; omega)
              have hp1 := (HS.out.ranged hd hd2 hn2).pos (t + 1)
              have hp0 := (HS.out.ranged hd hd2 hn2).pos t
              generalize posOf l (t + 1) = p1 at *
              generalize posOf l t = p0 at *
              have hwr : IntKind.i64.wrap (p1 - p0) = p1 - p0 := IntWalk.i64_in _ (by omega)
              have hng : ¬ p1 - p0 < d := by omega
              go_wp2_with fail
              go_quiet (fail)
              go_wp2
              go_roundg (m' - (t + 1))
              case measure => omega
              case rel => exact ⟨t + 2, by go_num, by omega, by omega, below_drewN hbt.out⟩
          · obtain rfl : t = m' + 1 := by omega
            go_wp2_with (first
              | (go_at_call 10; refine (lives_any _).mono ?_; rintro e w9 ⟨rfl, hb9⟩))
            go_ret
            have e := HNw.out
            have s5 := HALL.out.size
            have s6 := hbt.out.size
            refine ⟨rfl, ?_⟩
            rw [← e]
            exact HALL.out.trans ((hbt.out.mono (by omega)).trans (hb9.mono (by omega)))
      · have hmay' : ¬ (1 : Int) < (may : Int) := by omega
        go_wp2_with (first
          | (go_at_call 16; with_reducible refine C.out.mono ?_; rintro e w5 ⟨g5, c5, rfl, hc5, hb5⟩; have q0 := hc5.out.2 0 h0; rw [HF.out] at q0))
        have HALL : Hid (Below N w w5) := Lib.hid (by
          have e := HNw.out
          have s1 := HB1.out.size
          have s2 := HBL.out.size
          exact (HB1.out.mono (by omega)).trans (HBL.out.trans (hb5.mono (by omega))))
        have HC5 := Lib.hid hc5.out
        clear hb5 hc5 HBL HB1 C
        go_loopg [11] (m' + 1) (fun kx s11 W => ∃ t : Nat, s11 = .int .i64 t ∧ t ≤ m' + 1 ∧ m' + 1 - t ≤ kx ∧ Aside (Below w5.heap.size w5 W))
        case atStart => exact ⟨0, rfl, by omega, by omega, Below.refl _ _⟩
        case round =>
          obtain ⟨t, rfl, ht, hg, hbt⟩ := hrel
          by_cases hlt : t < m' + 1
          · have c1 := (hbt.out.cell (p := ⟨g5, t, none⟩) HC5.out.1).trans (HC5.out.2 t hlt)
            have hr := spread_rem HS.out t (by have := HM'.out; omega)
            rcases t with _ | t
            · generalize posOf l 0 = p1 at *
              go_wp2_with fail
              go_quiet (fail)
              go_wp2
              go_roundg m'
              case measure => omega
              case rel => exact ⟨1, by go_num, by omega, by omega, below_drewN hbt.out⟩
            · exfalso; omega
          · obtain rfl : t = m' + 1 := by omega
            go_wp2_with (first
              | (go_at_call 10; refine (lives_any _).mono ?_; rintro e w9 ⟨rfl, hb9⟩))
            go_ret
            have e := HNw.out
            have s5 := HALL.out.size
            have s6 := hbt.out.size
            refine ⟨rfl, ?_⟩
            rw [← e]
            exact HALL.out.trans ((hbt.out.mono (by omega)).trans (hb9.mono (by omega)))

theorem store_spread_walk (most n d : Int) (w : World) : Calls Try.prog 6 #[.int .i64 most, .int .i64 n, .int .i64 d] w fun e w' => e = .returned (.bool true) ∧ Below w.heap.size w w' := by
  by_cases h1 : n < 2
  · go_enter Try.func6, Try.ntmps6
    go_wp2_with (go_at_call 10; refine (lives_any _).mono ?_; rintro e w9 ⟨rfl, hb9⟩)
    go_ret
    exact ⟨rfl, hb9⟩
  · by_cases h2 : 400 < n
    · go_enter Try.func6, Try.ntmps6
      go_wp2_with (go_at_call 10; refine (lives_any _).mono ?_; rintro e w9 ⟨rfl, hb9⟩)
      go_ret
      exact ⟨rfl, hb9⟩
    · by_cases h3 : d < 1
      · go_enter Try.func6, Try.ntmps6
        go_wp2_with (go_at_call 10; refine (lives_any _).mono ?_; rintro e w9 ⟨rfl, hb9⟩)
        go_ret
        exact ⟨rfl, hb9⟩
      · by_cases h4 : 1000000 < d
        · go_enter Try.func6, Try.ntmps6
          go_wp2_with (go_at_call 10; refine (lives_any _).mono ?_; rintro e w9 ⟨rfl, hb9⟩)
          go_ret
          exact ⟨rfl, hb9⟩
        · obtain ⟨m, rfl⟩ : ∃ m : Nat, n = m := ⟨n.toNat, by omega⟩
          exact spread_main most d m w (by omega) (by omega) (by omega) (by omega)
end Go.Proofs.Ytiagpaoomijidaa
