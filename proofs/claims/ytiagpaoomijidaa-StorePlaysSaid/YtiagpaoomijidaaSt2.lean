import Derived.Test.YtiagpaoomijidaaSt1
import Derived.Deep.LoopGhost
namespace Go.Proofs.Ytiagpaoomijidaa
open Go.RowKit Go.Proofs
set_option linter.unusedVariables false

/-- The place of a position among rising ones. -/
def Place (p : Nat → Int) (n : Nat) (q : Int) (i : Nat) : Prop := i ≤ n ∧ (∀ t, t < i → p t < q) ∧ (∀ t, i ≤ t → t < n → q ≤ p t)

def Found (p : Nat → Int) (n : Nat) (q : Int) (w w' : World) (e : Ending) : Prop :=
  ∃ i : Nat, Place p n q i ∧ e = .returned (.tuple #[.int .i64 i, .bool (decide (i < n) && decide (p i = q))]) ∧ Below w.heap.size w w'

theorem cmpI_lt {a b : Int} (h : a < b) : cmpI a b = -1 := by unfold cmpI; rw [if_pos h]
theorem cmpI_ge {a b : Int} (h : ¬ a < b) : 0 ≤ cmpI a b := by unfold cmpI; rw [if_neg h]; split <;> decide
theorem cmpI_zero {a b : Int} : cmpI a b = 0 ↔ a = b := by
  unfold cmpI
  split
  · constructor
    · intro h; cases h
    · omega
  · split
    · constructor
      · intro h; cases h
      · omega
    · constructor
      · intro; omega
      · intro; rfl

set_option maxHeartbeats 800000 in
theorem bsearch_any (b off n cap : Nat) (p : Nat → Int) (v : Nat → Value) (q : Int) (w : World) (hb : b < w.heap.size) (hn : n < 4611686018427387904)
    (hc : ∀ i, i < n → w.cell? ⟨b, off + i * 2, none⟩ = some (.int .i64 (p i)) ∧ w.cell? ⟨b, off + i * 2 + 1, none⟩ = some (v i))
    (hm : ∀ s t, s < t → t < n → p s < p t) :
    Calls Try.prog 27 #[.slice (some ⟨b, off, none⟩) n cap, .int .i64 q, .func (.func 28) #[] #[]] w fun e w' => Found p n q w w' e := by
  have C : Aside (∀ i, i < n → w.cell? ⟨b, off + i * 2, none⟩ = some (.int .i64 (p i)) ∧ w.cell? ⟨b, off + i * 2 + 1, none⟩ = some (v i)) := hc
  have M : Aside (∀ s t, s < t → t < n → p s < p t) := hm
  clear hc hm
  go_enter Try.func27, Try.ntmps27
  go_wp2
  go_loopg [9, 10] n (fun kx s9 s10 wr => ∃ lo hi : Nat, s9 = .int .i64 lo ∧ s10 = .int .i64 hi ∧ lo ≤ hi ∧ hi ≤ n ∧ hi - lo ≤ kx ∧ Aside (Below w.heap.size w wr) ∧
    Aside ((∀ t, t < lo → p t < q) ∧ (∀ t, hi ≤ t → t < n → q ≤ p t)))
  case atStart => exact ⟨0, n, rfl, rfl, Nat.zero_le _, Nat.le_refl _, by omega, Below.refl _ _, (⟨fun t ht => absurd ht (Nat.not_lt_zero _), fun t h1 h2 => by omega⟩ : (∀ t, t < 0 → p t < q) ∧ (∀ t, n ≤ t → t < n → q ≤ p t))⟩
  case round =>
    obtain ⟨lo, hi, rfl, rfl, hlh, hin, hg, S1, I⟩ := hrel
    by_cases hlt : lo < hi
    · have c1 := (S1.out.cell (p := ⟨b, off + (lo + hi) / 2 * 2, none⟩) hb).trans (C.out ((lo + hi) / 2) (by omega)).1
      have c2 := (S1.out.cell (p := ⟨b, off + (lo + hi) / 2 * 2 + 1, none⟩) hb).trans (C.out ((lo + hi) / 2) (by omega)).2
      generalize hy : p ((lo + hi) / 2) = y at c1
      have Y : Aside (p ((lo + hi) / 2) = y) := hy
      clear hy
      generalize hv : v ((lo + hi) / 2) = u at c2
      clear hv
      by_cases hyx : y < q
      · have hk := cmpI_lt hyx
        go_wp2_with (go_at_call 28; refine (find1_any _ _ _ _).mono ?_; rintro e w' ⟨rfl, hbw⟩)
        go_roundg (hi - ((lo + hi) / 2 + 1))
        case measure => omega
        case rel =>
          have I2 : Aside ((∀ t, t < (lo + hi) / 2 + 1 → p t < q) ∧ (∀ t, hi ≤ t → t < n → q ≤ p t)) :=
            ⟨fun t ht => by
              rcases Nat.lt_or_ge t ((lo + hi) / 2) with k | k
              · have := M.out t ((lo + hi) / 2) k (by omega); rw [Y.out] at this; omega
              · obtain rfl : t = (lo + hi) / 2 := by omega
                rw [Y.out]; exact hyx, I.out.2⟩
          exact ⟨(lo + hi) / 2 + 1, hi, by rw [show ((lo : Int) + (hi : Int)) / 2 + 1 = (((lo + hi) / 2 + 1 : Nat) : Int) by omega], rfl, by omega, hin, Nat.le_refl _, S1.out.trans (hbw.mono S1.out.size), I2⟩
      · have hk := cmpI_ge hyx
        have hk' : ¬ cmpI y q < 0 := by omega
        go_wp2_with (go_at_call 28; refine (find1_any _ _ _ _).mono ?_; rintro e w' ⟨rfl, hbw⟩)
        go_roundg ((lo + hi) / 2 - lo)
        case measure => omega
        case rel =>
          have I2 : Aside ((∀ t, t < lo → p t < q) ∧ (∀ t, (lo + hi) / 2 ≤ t → t < n → q ≤ p t)) :=
            ⟨I.out.1, fun t ht htn => by
              rcases Nat.lt_or_ge ((lo + hi) / 2) t with k | k
              · have := M.out ((lo + hi) / 2) t k htn; rw [Y.out] at this; omega
              · obtain rfl : t = (lo + hi) / 2 := by omega
                rw [Y.out]; omega⟩
          exact ⟨lo, (lo + hi) / 2, rfl, by rw [show ((lo : Int) + (hi : Int)) / 2 = (((lo + hi) / 2 : Nat) : Int) by omega], by omega, by omega, Nat.le_refl _, S1.out.trans (hbw.mono S1.out.size), I2⟩
    · obtain rfl : hi = lo := by omega
      by_cases hn : hi < n
      · have c1 := (S1.out.cell (p := ⟨b, off + hi * 2, none⟩) hb).trans (C.out hi hn).1
        have c2 := (S1.out.cell (p := ⟨b, off + hi * 2 + 1, none⟩) hb).trans (C.out hi hn).2
        have P : Aside (Place p n q hi) := ⟨hin, I.out⟩
        generalize hy : p hi = y at c1
        have Y : Aside (p hi = y) := hy
        clear hy
        generalize hv : v hi = u at c2
        clear hv
        by_cases hyx : y = q
        · have hk := cmpI_zero.2 hyx
          go_wp2_with (go_at_call 28; refine (find1_any _ _ _ _).mono ?_; rintro e w' ⟨rfl, hbw⟩)
          go_ret2
          exact ⟨hi, P.out, by rw [Y.out]; simp [hn, hyx, cmpI_zero], S1.out.trans (hbw.mono S1.out.size)⟩
        · have hk : ¬ cmpI y q = 0 := fun h => hyx (cmpI_zero.1 h)
          go_wp2_with (go_at_call 28; refine (find1_any _ _ _ _).mono ?_; rintro e w' ⟨rfl, hbw⟩)
          go_ret2
          exact ⟨hi, P.out, by rw [Y.out]; simp [hn, hyx, cmpI_zero], S1.out.trans (hbw.mono S1.out.size)⟩
      · have P : Aside (Place p n q hi) := ⟨hin, I.out⟩
        go_wp2
        go_ret2
        exact ⟨hi, P.out, by simp [hn], S1.out⟩
end Go.Proofs.Ytiagpaoomijidaa
