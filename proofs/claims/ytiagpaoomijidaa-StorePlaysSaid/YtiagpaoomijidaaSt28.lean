import Derived.Test.YtiagpaoomijidaaSt27
namespace Go.Proofs.Ytiagpaoomijidaa
open Go.RowKit Go.Proofs
set_option linter.unusedVariables false

set_option maxRecDepth 100000 in
set_option maxHeartbeats 2000000 in
theorem first_main (most : Int) (so : Option Addr) (n c : Nat) (P : Nat → Int) (Q : Nat → ByteArray) (w : World) (ha : ActsIn w so n P Q) (hn : n ≤ 300) : Calls Try.prog 4 #[.int .i64 most, .slice so n c] w fun e w' => e = .returned (.bool true) ∧ Below w.heap.size w w' := by
  have hn1 : ¬ (300 : Int) < (n : Int) := by omega
  have HA := Lib.hid ha
  clear ha
  go_enter Try.func4, Try.ntmps4
  go_wp2_with (first
    | (go_at_call 8; with_reducible refine (new_fresh most _).mono ?_; rintro e w1 ⟨rfl, hst1, hb1⟩))
  obtain ⟨N, hN⟩ : ∃ N, N = w.heap.size := ⟨_, rfl⟩
  obtain ⟨may, hmay⟩ : ∃ may, may = (max 1 (min most 64)).toNat := ⟨_, rfl⟩
  rw [← hN] at hst1 ⊢
  rw [← hmay] at hst1
  have hm1 : 1 ≤ may := by omega
  have hm2 : may ≤ 64 := by omega
  have hmx : max 1 (min most 64) = (may : Int) := by omega
  have S1 : StoreAt w1 N N may [] := store_empty hst1
  have HNw := Lib.hid hN
  have HB1 := Lib.hid hb1
  clear hst1 hb1 hN hmay
  go_loopg [6, 7] n (fun kx s6 s7 wr => ∃ (k : Nat) (least : Int), s7 = .int .i64 k ∧ s6 = .int .i64 least ∧ k ≤ n ∧ n - k ≤ kx ∧ Aside (∃ l, First may least l ∧ StoreAt wr N N may l ∧ Below N w1 wr))
  case atStart => exact ⟨0, -1, rfl, rfl, by omega, by omega, ([] : List (Int × List UInt8)), first_nil _, S1, Below.refl _ _⟩
  case round =>
    obtain ⟨k, least, rfl, rfl, hk, hg, L⟩ := hrel
    obtain ⟨l, hf, S, hbl⟩ := L.out
    by_cases hkn : k < n
    · obtain ⟨a, hso, q0, q1, b1, b2⟩ := HA.out k hkn
      have haN : a.block < N ∨ True := .inr trivial
      have hbw : (a.add (k * 2)).block < w.heap.size := World.block_lt_of_cell? w _ q0
      have c1 : wr.cell? (a.add (k * 2)) = some (.int .i64 (P k)) := by
        rw [hbl.cell (by rw [HNw.out]; exact hbw), HB1.out.cell hbw]; exact q0
      generalize P k = q at *
      have C := Lib.hid (first_step q S hf hm1 hm2 b2)
      have HBL := Lib.hid hbl
      have HAB : Hid ((a.add (k * 2)).block < N) := Lib.hid (by rw [HNw.out]; exact hbw)
      subst hso
      clear S hf hbl L S1 q0 q1 hbw haN
      have hk0 : (0 : Int) ≤ (k : Int) := by omega
      have hk1 : (k : Int) < (n : Int) := by omega
      have hcases : q < 0 ∨ (0 ≤ q ∧ least < 0) ∨ (0 ≤ q ∧ 0 ≤ least ∧ q < least) ∨ (0 ≤ q ∧ 0 ≤ least ∧ least ≤ q) := by omega
      rcases hcases with hc | ⟨hc, hc2⟩ | ⟨hc, hc2, hc3⟩ | ⟨hc, hc2, hc3⟩
      · go_wp2_with (first
          | (go_at_call 12; with_reducible refine C.out.mono ?_; rintro e w5 ⟨z, rfl, l', hf', S', hb5⟩; have c2 := (hb5.cell HAB.out).trans c1))
        have hX : leastA least q = least := by unfold leastA; rw [if_neg (by omega)]
        rw [hX] at hf'
        have hl' := hf'.len
        have hno := hf'.none
        have hfi := hf'.first
        have hri := hf'.rise
        have C2 := Lib.hid (all_gen S' (by omega) (by omega))
        have HL' : Hid (∃ l, First may least l ∧ StoreAt w5 N N may l ∧ Below N w1 w5) := Lib.hid ⟨l', hf', S', HBL.out.trans hb5⟩
        have hN5 : N ≤ w5.heap.size := by have := HBL.out.size; have := hb5.size; have := HB1.out.size; have := HNw.out; omega
        have HRI := Lib.hid hri
        have HFI := Lib.hid hfi
        clear hf' S' hb5 C c1 c2 hri hfi HBL hX
        by_cases h0 : l'.length = 0
        · rw [h0] at C2
          have hlt : least < 0 := hno.1 h0
          clear hno
          go_wp2_with (first
            | (go_at_call 16; with_reducible refine C2.out.mono ?_; rintro e w6 ⟨so2, c2, rfl, hc6, hb6⟩))
          refine wp_loop_rounds 1 ?_
          rw [rounds_succ]
          go_wp2
          go_roundg (n - (k + 1))
          case measure => omega
          case rel =>
            obtain ⟨l2, f2, s2, b2'⟩ := HL'.out
            exact ⟨k + 1, least, by go_num, rfl, by omega, Nat.le_refl _, l2, f2, s2.below hb6, b2'.trans (hb6.mono hN5)⟩
        · have h0' : 0 < l'.length := by omega
          have hge : ¬ least < 0 := fun e => h0 (hno.2 e)
          have hI : ¬ (l'.length : Int) = 0 := by omega
          have hI2 : (0 : Int) < (l'.length : Int) := by omega
          have hI3 : ¬ (may : Int) < (l'.length : Int) := by omega
          have hI6 : decide (may < l'.length) = false := decide_eq_false (by omega)
          have hI4 : (((l'.length : Int) == 0) = decide (least < 0)) := by rw [decide_eq_false hge, beq_eq_false_iff_ne]; exact hI
          have hI5 : (((l'.length : Int) == 0) == decide (least < 0)) = true := by rw [hI4]; exact beq_self_eq_true _
          clear hno
          go_wp2_with (first
            | (go_at_call 16; with_reducible refine C2.out.mono ?_; rintro e w6 ⟨so2, c2, rfl, hc6, hb6⟩; obtain ⟨g6, hg6, hg7, d0⟩ := hc6.out 0 h0'; rw [HFI.out h0'] at d0; subst hg6))
          have HC6 : Hid (∀ t, t < l'.length → w6.cell? ⟨g6, t, none⟩ = some (.int .i64 (posOf l' t))) := Lib.hid fun t ht => by
            obtain ⟨g, e1, e2, e3⟩ := hc6.out t ht
            cases e1; exact e3
          clear hc6 d0
          go_loopg [9] l'.length (fun kx s9 W => ∃ t : Nat, s9 = .int .i64 t ∧ 1 ≤ t ∧ t ≤ l'.length ∧ l'.length - t ≤ kx ∧ Aside (Below w6.heap.size w6 W))
          case atStart => exact ⟨1, rfl, by omega, by omega, by omega, Below.refl _ _⟩
          case round =>
            obtain ⟨t, rfl, ht1, ht, hg9, hbt⟩ := hrel
            by_cases hlt : t < l'.length
            · obtain ⟨t', rfl⟩ : ∃ t', t = t' + 1 := ⟨t - 1, by omega⟩
              have d1 := (hbt.out.cell (p := ⟨g6, t' + 1, none⟩) hg7).trans (HC6.out (t' + 1) hlt)
              have d2 := (hbt.out.cell (p := ⟨g6, t', none⟩) hg7).trans (HC6.out t' (by omega))
              have hlt2 : posOf l' t' < posOf l' (t' + 1) := HRI.out t' (t' + 1) (by omega) hlt
              generalize posOf l' (t' + 1) = p1 at *
              generalize posOf l' t' = p0 at *
              have hng : ¬ p1 ≤ p0 := by omega
              go_wp2_with fail
              go_quiet (fail)
              go_wp2
              go_roundg (l'.length - (t' + 2))
              case measure => omega
              case rel => exact ⟨t' + 2, by go_num, by omega, by omega, by omega, below_drewN hbt.out⟩
            · obtain rfl : t = l'.length := by omega
              go_wp2
              go_roundg (n - (k + 1))
              case measure => omega
              case rel =>
                obtain ⟨l2, f2, s2, b2'⟩ := HL'.out
                exact ⟨k + 1, least, by go_num, rfl, by omega, Nat.le_refl _, l2, f2, (s2.below hb6).below (hbt.out.mono (Nat.le_refl _)), b2'.trans ((hb6.mono hN5).trans (hbt.out.mono (by have := hb6.size; omega)))⟩
      · go_wp2_with (first
          | (go_at_call 12; with_reducible refine C.out.mono ?_; rintro e w5 ⟨z, rfl, l', hf', S', hb5⟩; have c2 := (hb5.cell HAB.out).trans c1))
        have hX : leastA least q = q := by unfold leastA; rw [if_pos ⟨hc, .inl hc2⟩]
        rw [hX] at hf'
        have hl' := hf'.len
        have hno := hf'.none
        have hfi := hf'.first
        have hri := hf'.rise
        have C2 := Lib.hid (all_gen S' (by omega) (by omega))
        have HL' : Hid (∃ l, First may q l ∧ StoreAt w5 N N may l ∧ Below N w1 w5) := Lib.hid ⟨l', hf', S', HBL.out.trans hb5⟩
        have hN5 : N ≤ w5.heap.size := by have := HBL.out.size; have := hb5.size; have := HB1.out.size; have := HNw.out; omega
        have HRI := Lib.hid hri
        have HFI := Lib.hid hfi
        clear hf' S' hb5 C c1 c2 hri hfi HBL hX
        by_cases h0 : l'.length = 0
        · exfalso; have := hno.1 h0; omega
        · have h0' : 0 < l'.length := by omega
          have hge : ¬ q < 0 := fun e => h0 (hno.2 e)
          have hI : ¬ (l'.length : Int) = 0 := by omega
          have hI2 : (0 : Int) < (l'.length : Int) := by omega
          have hI3 : ¬ (may : Int) < (l'.length : Int) := by omega
          have hI6 : decide (may < l'.length) = false := decide_eq_false (by omega)
          have hI4 : (((l'.length : Int) == 0) = decide (q < 0)) := by rw [decide_eq_false hge, beq_eq_false_iff_ne]; exact hI
          have hI5 : (((l'.length : Int) == 0) == decide (q < 0)) = true := by rw [hI4]; exact beq_self_eq_true _
          clear hno
          go_wp2_with (first
            | (go_at_call 16; with_reducible refine C2.out.mono ?_; rintro e w6 ⟨so2, c2, rfl, hc6, hb6⟩; obtain ⟨g6, hg6, hg7, d0⟩ := hc6.out 0 h0'; rw [HFI.out h0'] at d0; subst hg6))
          have HC6 : Hid (∀ t, t < l'.length → w6.cell? ⟨g6, t, none⟩ = some (.int .i64 (posOf l' t))) := Lib.hid fun t ht => by
            obtain ⟨g, e1, e2, e3⟩ := hc6.out t ht
            cases e1; exact e3
          clear hc6 d0
          go_loopg [9] l'.length (fun kx s9 W => ∃ t : Nat, s9 = .int .i64 t ∧ 1 ≤ t ∧ t ≤ l'.length ∧ l'.length - t ≤ kx ∧ Aside (Below w6.heap.size w6 W))
          case atStart => exact ⟨1, rfl, by omega, by omega, by omega, Below.refl _ _⟩
          case round =>
            obtain ⟨t, rfl, ht1, ht, hg9, hbt⟩ := hrel
            by_cases hlt : t < l'.length
            · obtain ⟨t', rfl⟩ : ∃ t', t = t' + 1 := ⟨t - 1, by omega⟩
              have d1 := (hbt.out.cell (p := ⟨g6, t' + 1, none⟩) hg7).trans (HC6.out (t' + 1) hlt)
              have d2 := (hbt.out.cell (p := ⟨g6, t', none⟩) hg7).trans (HC6.out t' (by omega))
              have hlt2 : posOf l' t' < posOf l' (t' + 1) := HRI.out t' (t' + 1) (by omega) hlt
              generalize posOf l' (t' + 1) = p1 at *
              generalize posOf l' t' = p0 at *
              have hng : ¬ p1 ≤ p0 := by omega
              go_wp2_with fail
              go_quiet (fail)
              go_wp2
              go_roundg (l'.length - (t' + 2))
              case measure => omega
              case rel => exact ⟨t' + 2, by go_num, by omega, by omega, by omega, below_drewN hbt.out⟩
            · obtain rfl : t = l'.length := by omega
              go_wp2
              go_roundg (n - (k + 1))
              case measure => omega
              case rel =>
                obtain ⟨l2, f2, s2, b2'⟩ := HL'.out
                exact ⟨k + 1, q, by go_num, rfl, by omega, Nat.le_refl _, l2, f2, (s2.below hb6).below (hbt.out.mono (Nat.le_refl _)), b2'.trans ((hb6.mono hN5).trans (hbt.out.mono (by have := hb6.size; omega)))⟩
      · go_wp2_with (first
          | (go_at_call 12; with_reducible refine C.out.mono ?_; rintro e w5 ⟨z, rfl, l', hf', S', hb5⟩; have c2 := (hb5.cell HAB.out).trans c1))
        have hX : leastA least q = q := by unfold leastA; rw [if_pos ⟨hc, .inr hc3⟩]
        rw [hX] at hf'
        have hl' := hf'.len
        have hno := hf'.none
        have hfi := hf'.first
        have hri := hf'.rise
        have C2 := Lib.hid (all_gen S' (by omega) (by omega))
        have HL' : Hid (∃ l, First may q l ∧ StoreAt w5 N N may l ∧ Below N w1 w5) := Lib.hid ⟨l', hf', S', HBL.out.trans hb5⟩
        have hN5 : N ≤ w5.heap.size := by have := HBL.out.size; have := hb5.size; have := HB1.out.size; have := HNw.out; omega
        have HRI := Lib.hid hri
        have HFI := Lib.hid hfi
        clear hf' S' hb5 C c1 c2 hri hfi HBL hX
        by_cases h0 : l'.length = 0
        · exfalso; have := hno.1 h0; omega
        · have h0' : 0 < l'.length := by omega
          have hge : ¬ q < 0 := fun e => h0 (hno.2 e)
          have hI : ¬ (l'.length : Int) = 0 := by omega
          have hI2 : (0 : Int) < (l'.length : Int) := by omega
          have hI3 : ¬ (may : Int) < (l'.length : Int) := by omega
          have hI6 : decide (may < l'.length) = false := decide_eq_false (by omega)
          have hI4 : (((l'.length : Int) == 0) = decide (q < 0)) := by rw [decide_eq_false hge, beq_eq_false_iff_ne]; exact hI
          have hI5 : (((l'.length : Int) == 0) == decide (q < 0)) = true := by rw [hI4]; exact beq_self_eq_true _
          clear hno
          go_wp2_with (first
            | (go_at_call 16; with_reducible refine C2.out.mono ?_; rintro e w6 ⟨so2, c2, rfl, hc6, hb6⟩; obtain ⟨g6, hg6, hg7, d0⟩ := hc6.out 0 h0'; rw [HFI.out h0'] at d0; subst hg6))
          have HC6 : Hid (∀ t, t < l'.length → w6.cell? ⟨g6, t, none⟩ = some (.int .i64 (posOf l' t))) := Lib.hid fun t ht => by
            obtain ⟨g, e1, e2, e3⟩ := hc6.out t ht
            cases e1; exact e3
          clear hc6 d0
          go_loopg [9] l'.length (fun kx s9 W => ∃ t : Nat, s9 = .int .i64 t ∧ 1 ≤ t ∧ t ≤ l'.length ∧ l'.length - t ≤ kx ∧ Aside (Below w6.heap.size w6 W))
          case atStart => exact ⟨1, rfl, by omega, by omega, by omega, Below.refl _ _⟩
          case round =>
            obtain ⟨t, rfl, ht1, ht, hg9, hbt⟩ := hrel
            by_cases hlt : t < l'.length
            · obtain ⟨t', rfl⟩ : ∃ t', t = t' + 1 := ⟨t - 1, by omega⟩
              have d1 := (hbt.out.cell (p := ⟨g6, t' + 1, none⟩) hg7).trans (HC6.out (t' + 1) hlt)
              have d2 := (hbt.out.cell (p := ⟨g6, t', none⟩) hg7).trans (HC6.out t' (by omega))
              have hlt2 : posOf l' t' < posOf l' (t' + 1) := HRI.out t' (t' + 1) (by omega) hlt
              generalize posOf l' (t' + 1) = p1 at *
              generalize posOf l' t' = p0 at *
              have hng : ¬ p1 ≤ p0 := by omega
              go_wp2_with fail
              go_quiet (fail)
              go_wp2
              go_roundg (l'.length - (t' + 2))
              case measure => omega
              case rel => exact ⟨t' + 2, by go_num, by omega, by omega, by omega, below_drewN hbt.out⟩
            · obtain rfl : t = l'.length := by omega
              go_wp2
              go_roundg (n - (k + 1))
              case measure => omega
              case rel =>
                obtain ⟨l2, f2, s2, b2'⟩ := HL'.out
                exact ⟨k + 1, q, by go_num, rfl, by omega, Nat.le_refl _, l2, f2, (s2.below hb6).below (hbt.out.mono (Nat.le_refl _)), b2'.trans ((hb6.mono hN5).trans (hbt.out.mono (by have := hb6.size; omega)))⟩
      · go_wp2_with (first
          | (go_at_call 12; with_reducible refine C.out.mono ?_; rintro e w5 ⟨z, rfl, l', hf', S', hb5⟩; have c2 := (hb5.cell HAB.out).trans c1))
        have hX : leastA least q = least := by unfold leastA; rw [if_neg (by omega)]
        rw [hX] at hf'
        have hl' := hf'.len
        have hno := hf'.none
        have hfi := hf'.first
        have hri := hf'.rise
        have C2 := Lib.hid (all_gen S' (by omega) (by omega))
        have HL' : Hid (∃ l, First may least l ∧ StoreAt w5 N N may l ∧ Below N w1 w5) := Lib.hid ⟨l', hf', S', HBL.out.trans hb5⟩
        have hN5 : N ≤ w5.heap.size := by have := HBL.out.size; have := hb5.size; have := HB1.out.size; have := HNw.out; omega
        have HRI := Lib.hid hri
        have HFI := Lib.hid hfi
        clear hf' S' hb5 C c1 c2 hri hfi HBL hX
        by_cases h0 : l'.length = 0
        · exfalso; have := hno.1 h0; omega
        · have h0' : 0 < l'.length := by omega
          have hge : ¬ least < 0 := fun e => h0 (hno.2 e)
          have hI : ¬ (l'.length : Int) = 0 := by omega
          have hI2 : (0 : Int) < (l'.length : Int) := by omega
          have hI3 : ¬ (may : Int) < (l'.length : Int) := by omega
          have hI6 : decide (may < l'.length) = false := decide_eq_false (by omega)
          have hI4 : (((l'.length : Int) == 0) = decide (least < 0)) := by rw [decide_eq_false hge, beq_eq_false_iff_ne]; exact hI
          have hI5 : (((l'.length : Int) == 0) == decide (least < 0)) = true := by rw [hI4]; exact beq_self_eq_true _
          clear hno
          go_wp2_with (first
            | (go_at_call 16; with_reducible refine C2.out.mono ?_; rintro e w6 ⟨so2, c2, rfl, hc6, hb6⟩; obtain ⟨g6, hg6, hg7, d0⟩ := hc6.out 0 h0'; rw [HFI.out h0'] at d0; subst hg6))
          have HC6 : Hid (∀ t, t < l'.length → w6.cell? ⟨g6, t, none⟩ = some (.int .i64 (posOf l' t))) := Lib.hid fun t ht => by
            obtain ⟨g, e1, e2, e3⟩ := hc6.out t ht
            cases e1; exact e3
          clear hc6 d0
          go_loopg [9] l'.length (fun kx s9 W => ∃ t : Nat, s9 = .int .i64 t ∧ 1 ≤ t ∧ t ≤ l'.length ∧ l'.length - t ≤ kx ∧ Aside (Below w6.heap.size w6 W))
          case atStart => exact ⟨1, rfl, by omega, by omega, by omega, Below.refl _ _⟩
          case round =>
            obtain ⟨t, rfl, ht1, ht, hg9, hbt⟩ := hrel
            by_cases hlt : t < l'.length
            · obtain ⟨t', rfl⟩ : ∃ t', t = t' + 1 := ⟨t - 1, by omega⟩
              have d1 := (hbt.out.cell (p := ⟨g6, t' + 1, none⟩) hg7).trans (HC6.out (t' + 1) hlt)
              have d2 := (hbt.out.cell (p := ⟨g6, t', none⟩) hg7).trans (HC6.out t' (by omega))
              have hlt2 : posOf l' t' < posOf l' (t' + 1) := HRI.out t' (t' + 1) (by omega) hlt
              generalize posOf l' (t' + 1) = p1 at *
              generalize posOf l' t' = p0 at *
              have hng : ¬ p1 ≤ p0 := by omega
              go_wp2_with fail
              go_quiet (fail)
              go_wp2
              go_roundg (l'.length - (t' + 2))
              case measure => omega
              case rel => exact ⟨t' + 2, by go_num, by omega, by omega, by omega, below_drewN hbt.out⟩
            · obtain rfl : t = l'.length := by omega
              go_wp2
              go_roundg (n - (k + 1))
              case measure => omega
              case rel =>
                obtain ⟨l2, f2, s2, b2'⟩ := HL'.out
                exact ⟨k + 1, least, by go_num, rfl, by omega, Nat.le_refl _, l2, f2, (s2.below hb6).below (hbt.out.mono (Nat.le_refl _)), b2'.trans ((hb6.mono hN5).trans (hbt.out.mono (by have := hb6.size; omega)))⟩
    · obtain rfl : k = n := by omega
      have HBL := Lib.hid hbl
      clear hf S hbl L S1
      go_wp2_with (first
        | (go_at_call 10; refine (lives_any _).mono ?_; rintro e w9 ⟨rfl, hb9⟩))
      go_ret
      have e := HNw.out
      have s1 := HB1.out.size
      have s2 := HBL.out.size
      exact ⟨rfl, HB1.out.trans ((HBL.out.mono (by omega)).trans (hb9.mono (by omega)))⟩
end Go.Proofs.Ytiagpaoomijidaa
