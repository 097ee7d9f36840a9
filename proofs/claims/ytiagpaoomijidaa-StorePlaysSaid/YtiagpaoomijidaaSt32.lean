import Derived.Test.YtiagpaoomijidaaSt31
namespace Go.Proofs.Ytiagpaoomijidaa
open Go.RowKit Go.Proofs
set_option linter.unusedVariables false

/-- A row of Puts that came in, place by place. -/
theorem acts_cells {w : World} {so : Option Addr} {n : Nat} {P : Nat → Int} {Q : Nat → ByteArray} (h : ActsIn w so n P Q) {k : Nat} (hk : k < n) :
    ∃ b o, so = some ⟨b, o, none⟩ ∧ b < w.heap.size ∧ w.cell? ⟨b, o + k * 2, none⟩ = some (.int .i64 (P k)) ∧ w.cell? ⟨b, o + k * 2 + 1, none⟩ = some (.string (Q k)) ∧ -9223372036854775808 ≤ P k ∧ P k ≤ 9223372036854775807 := by
  obtain ⟨⟨b, o, s⟩, rfl, q0, q1, b1, b2⟩ := h k hk
  obtain ⟨a2, e, z0, _⟩ := h 0 (by omega)
  cases e
  have hs : s = none := by simpa [Addr.add] using World.cell?_spot z0
  subst hs
  rw [Addr.add_lit] at q0 q1
  exact ⟨b, o, rfl, World.block_lt_of_cell? w _ q0, q0, by rw [Nat.add_assoc]; exact q1, b1, b2⟩

set_option maxRecDepth 100000 in
set_option maxHeartbeats 2000000 in
theorem done_any (most : Int) (so : Option Addr) (n c : Nat) (P : Nat → Int) (Q : Nat → ByteArray) (w : World) (ha : ActsIn w so n P Q) (hf : ActsFit n Q) (hn : n ≤ 300) : Calls Try.prog 18 #[.int .i64 most, .slice so n c] w fun e w' => e = .returned (.pointer (some ⟨w.heap.size, 0, none⟩)) ∧ ∃ may l, may = (max 1 (min most 64)).toNat ∧ KeptL may P Q n l ∧ StoreAt w' w.heap.size w.heap.size may l ∧ Below w.heap.size w w' := by
  have HA := Lib.hid ha
  have HF := Lib.hid hf
  clear ha hf
  go_enter Try.func18, Try.ntmps18
  go_wp2_with (first
    | (go_at_call 8; with_reducible refine (new_fresh most _).mono ?_; rintro e w1 ⟨rfl, hst1, hb1⟩))
  obtain ⟨N, hN⟩ : ∃ N, N = w.heap.size := ⟨_, rfl⟩
  obtain ⟨may, hmay⟩ : ∃ may, may = (max 1 (min most 64)).toNat := ⟨_, rfl⟩
  rw [← hN] at hst1 ⊢
  rw [← hmay] at hst1
  have hm1 : 1 ≤ may := by omega
  have hm2 : may ≤ 64 := by omega
  have S1 : StoreAt w1 N N may [] := store_empty hst1
  have HNw := Lib.hid hN
  have HB1 := Lib.hid hb1
  have HM := Lib.hid hmay
  clear hst1 hb1 hN hmay
  go_loopg [6] n (fun kx s4 wr => ∃ (k : Nat), s4 = .int .i64 k ∧ k ≤ n ∧ n - k ≤ kx ∧ Aside (∃ l, KeptL may P Q k l ∧ StoreAt wr N N may l ∧ Below N w1 wr))
  case atStart => exact ⟨0, rfl, by omega, by omega, ([] : List (Int × List UInt8)), kept_nil _ _ _, S1, Below.refl _ _⟩
  case round =>
    obtain ⟨k, rfl, hk, hg, L⟩ := hrel
    by_cases hkn : k < n
    · obtain ⟨l, hkl, S, hbl⟩ := L.out
      obtain ⟨ab, ao, hso, hbw, q0, q1, b1, b2⟩ := acts_cells HA.out hkn
      have hwr : w.heap.size ≤ wr.heap.size := Nat.le_trans HB1.out.size hbl.size
      have c1 : wr.cell? ⟨ab, ao + k * 2, none⟩ = some (.int .i64 (P k)) := by
        rw [hbl.cell (by rw [HNw.out]; exact hbw), HB1.out.cell hbw]; exact q0
      have c2 : wr.cell? ⟨ab, ao + k * 2 + 1, none⟩ = some (.string (Q k)) := by
        rw [hbl.cell (by rw [HNw.out]; exact hbw), HB1.out.cell hbw]; exact q1
      obtain ⟨c', C, fr, hcv, hbi⟩ := conv_bytes (w := wr.drew) (Q k)
      have hlt : ab < wr.heap.size := by omega
      have c3 : (wr.alloc (.cells C 5 fr)).cell? ⟨ab, ao + k * 2, none⟩ = some (.int .i64 (P k)) := by
        rw [World.cell?_alloc_lt _ _ _ hlt]; exact c1
      have hbi' : BytesIn (wr.alloc (.cells C 5 fr)).drew.drew (.slice (some ⟨wr.heap.size, 0, none⟩) (Q k).size c') (Q k).data.toList := hbi
      have ha5 : Below wr.heap.size wr (wr.alloc (.cells C 5 fr)).drew.drew := ((Below.refl _ _).alloc (Nat.le_refl _) _).drew.drew
      have C0 := Lib.hid (kept_step _ hbi' (HF.out k hkn) (S.below ha5) hkl hm1 hm2 b2)
      have HA5 := Lib.hid ha5
      have HBL := Lib.hid hbl
      generalize P k = q at *
      generalize Q k = s at *
      subst hso
      clear S hkl hbl L S1 q0 q1 hbw hwr hbi hbi' ha5 hlt
      have hk0 : (0 : Int) ≤ (k : Int) := by omega
      have hk1 : (k : Int) < (n : Int) := by omega
      go_wp2_with (fail)
      go_region_law (first | (go_simp; go_at_call 12; with_reducible refine C0.out.mono ?_; rintro e w5 ⟨z, rfl, l', hf', S', hb5⟩))
      all_goals
        go_wp2
        go_roundg (n - (k + 1))
        case measure => omega
        case rel => exact ⟨k + 1, by go_num, by omega, Nat.le_refl _, l', hf', S', HBL.out.trans ((HA5.out.mono (by have := HBL.out.size; have := HB1.out.size; have := HNw.out; omega)).trans hb5)⟩
    · obtain rfl : k = n := by omega
      go_wp2
      go_ret
      obtain ⟨l, hkl, S, hbl⟩ := L.out
      have e := HNw.out
      refine ⟨by rw [e]; rfl, may, l, HM.out, hkl, by rw [← e]; exact S, ?_⟩
      rw [← e]
      exact (HB1.out.mono (by omega)).trans hbl
end Go.Proofs.Ytiagpaoomijidaa
