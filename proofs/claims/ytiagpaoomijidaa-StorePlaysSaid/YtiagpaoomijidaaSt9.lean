import Derived.Test.YtiagpaoomijidaaSt8
namespace Go.Proofs.Ytiagpaoomijidaa
open Go.RowKit Go.Proofs
set_option linter.unusedVariables false

def stepN (l : List (Int × List UInt8)) (q : Int) (g : Int) (i : Nat) : Int := if posOf l i ≠ q ∧ (g < 0 ∨ gapOf l i < gapOf l g.toNat) then i else g
/-- Of those that may go, up to a place, the one that is nearest to the next one below. -/
def scanN (l : List (Int × List UInt8)) (q : Int) : Nat → Int
  | 0 => -1
  | 1 => -1
  | k + 2 => stepN l q (scanN l q (k + 1)) (k + 1)

theorem scanN_succ (l : List (Int × List UInt8)) (q : Int) (k : Nat) (h : 1 ≤ k) : scanN l q (k + 1) = stepN l q (scanN l q k) k := by
  obtain ⟨j, rfl⟩ : ∃ j, k = j + 1 := ⟨k - 1, by omega⟩
  rfl

theorem scanN_range (l : List (Int × List UInt8)) (q : Int) : ∀ k, scanN l q k = -1 ∨ (1 ≤ scanN l q k ∧ scanN l q k < k)
  | 0 => .inl rfl
  | 1 => .inl rfl
  | k + 2 => by
    show stepN l q (scanN l q (k + 1)) (k + 1) = -1 ∨ _
    have ih := scanN_range l q (k + 1)
    have e : scanN l q (k + 2) = stepN l q (scanN l q (k + 1)) (k + 1) := rfl
    rw [e]
    unfold stepN
    split
    · right; omega
    · omega

theorem scan_lt (l : List (Int × List UInt8)) (q : Int) (k G : Nat) (h : posOf l k ≠ q) : stepN l q (G : Int) k = if gapOf l k < gapOf l G then (k : Int) else G := by
  unfold stepN
  rw [Int.toNat_natCast]
  by_cases hc : gapOf l k < gapOf l G
  · rw [if_pos hc, if_pos ⟨h, .inr hc⟩]
  · rw [if_neg hc, if_neg]
    rintro ⟨_, h1 | h1⟩
    · omega
    · exact hc h1

theorem below_drewN {B : Nat} {a w : World} (h : Below B a w) {n : Nat} : Below B a (w.drewN n) := ⟨h.os, h.tape, h.output, h.size, h.block⟩

def NearPost (l : List (Int × List UInt8)) (q : Int) (w w' : World) (e : Ending) : Prop := e = .returned (.int .i64 (scanN l q l.length)) ∧ Below w.heap.size w w'

set_option maxRecDepth 100000 in
set_option maxHeartbeats 1000000 in
theorem nearest_any (sb base most : Nat) (l : List (Int × List UInt8)) (q : Int) (pa : Addr) (w : World) (h : StoreAt w base sb most l) (hp : w.cell? pa = some (.int .i64 q)) (hr : Ranged l) (hl : l.length ≤ 1000) :
    Calls Try.prog 24 #[.pointer (some ⟨sb, 0, none⟩), .func (.func 25) #[] #[.pointer (some pa)]] w fun e w' => NearPost l q w w' e := by
  have hsb : sb < w.heap.size := by obtain ⟨sv, it, h1, _⟩ := h; exact (Array.getElem?_eq_some_iff.1 h1).1
  have hpb : pa.block < w.heap.size := World.block_lt_of_cell? w _ hp
  have c1 : ∃ so cap, w.cell? ⟨sb, 1, none⟩ = some (.slice so l.length cap) := by
    obtain ⟨sv, it, h1, h2, h3⟩ := h
    rcases h3.row.2 with ⟨h, h4⟩ | ⟨g, cap, cur, h, h5⟩
    · exact ⟨none, 0, by simp [World.cell?, h1]; rw [h, ← h3.len, h4]⟩
    · exact ⟨_, _, by simp [World.cell?, h1]; rw [h, ← h3.len]⟩
  obtain ⟨so, cap, c1⟩ := c1
  have HS : Hid (StoreAt w base sb most l) := Lib.hid h
  have HR : Hid (Ranged l) := Lib.hid hr
  clear h hr
  go_enter Try.func24, Try.ntmps24
  go_wp2
  go_loopg [5, 7] l.length (fun kx s5 s7 wr => ∃ (k : Nat) (v : Value), s7 = .int .i64 k ∧ v = s5 ∧ 1 ≤ k ∧ k ≤ max l.length 1 ∧ l.length - k ≤ kx ∧ Aside (v = .int .i64 (scanN l q k)) ∧ Aside (Below (w.heap.size + 1) (w.alloc (.cells #[.pointer (some ⟨sb, 0, none⟩)] 23)) wr))
  case atStart => exact ⟨1, _, rfl, rfl, by omega, by omega, by omega, rfl, Below.refl _ _⟩
  case round =>
    obtain ⟨k, v, rfl, rfl, hk1, hk, hg, hv, hb⟩ := hrel
    have hbox : wr.cell? ⟨w.heap.size, 0, none⟩ = some (.pointer (some ⟨sb, 0, none⟩)) := by
      rw [hb.out.cell (p := ⟨w.heap.size, 0, none⟩) (by simp), cell_new]; rfl
    have hbw : Aside (Below w.heap.size w wr) := ((Below.refl _ _).alloc (Nat.le_refl _) _).trans (hb.out.mono (by omega))
    have c1r := (hbw.out.cell (p := ⟨sb, 1, none⟩) hsb).trans c1
    have hpr := (hbw.out.cell (p := pa) hpb).trans hp
    have hpbr : pa.block < wr.heap.size := Nat.lt_of_lt_of_le hpb hbw.out.size
    have hsr := hv.out
    by_cases hlt : k < l.length
    · have hst := HS.out.below hbw.out
      obtain ⟨sv, it, h1', h2, h3⟩ := hst
      obtain ⟨x, y, hx, hy, hxy⟩ := item_at h3 hlt
      obtain ⟨g, cap', hsv, hg', k0, k1, k2, bi⟩ := store_cells h1' h3 (Below.refl _ _) hx
      subst hsv
      have c1' : wr.cell? ⟨sb, 1, none⟩ = some (.slice (some ⟨g, 0, none⟩) l.length cap') := by rw [k0, h3.len]
      have hsl : Value.slice so l.length cap = .slice (some ⟨g, 0, none⟩) l.length cap' := Option.some.inj (c1r.symm.trans c1')
      cases hsl
      obtain ⟨vo, vc, hvx⟩ := hxy.2.form
      have ep : posOf l k = x.1 := by unfold posOf; rw [List.getD_eq_getElem?_getD, hy, hxy.1]; rfl
      have EP : Hid (posOf l k = x.1) := Lib.hid ep
      obtain ⟨px, vx⟩ := x
      simp only at k1 k2 hvx EP
      subst hvx
      clear ep hxy hx hy h3 h2 h1' k0 c1'
      have hgap : Hid (∀ (W : World) (i : Nat), Below (w.heap.size + 1) (w.alloc (.cells #[.pointer (some ⟨sb, 0, none⟩)] 23)) W → 1 ≤ i → i < l.length →
          Calls Try.prog 32 #[.int .i64 i, .pointer (some ⟨w.heap.size, 0, none⟩)] W fun e w' => e = .returned (.int .i64 (gapOf l i)) ∧ ∃ n, w' = W.drewN n) := Lib.hid (fun W i hW h1 h2 =>
        gap_any sb base most l i _ W (HS.out.below (((Below.refl _ _).alloc (Nat.le_refl _) _).trans (hW.mono (by omega)))) (by rw [hW.cell (p := ⟨w.heap.size, 0, none⟩) (by simp), cell_new]; rfl) h1 h2 HR.out hl)
      have hgr := scanN_range l q k
      have hsu := scanN_succ l q k hk1
      subst hsr
      generalize hG : scanN l q k = G at hgr hsu
      have HSU : Hid (scanN l q (k + 1) = stepN l q G k) := Lib.hid hsu
      clear hsu hG hv
      have hbw2 := hbw.out.size
      have hn2 : ∀ (W2 : World) (e' : Int), Below wr.heap.size wr W2 → scanN l q (k + 1) = e' → Aside (Value.int IntKind.i64 e' = .int .i64 (scanN l q (k + 1))) ∧ Aside (Below (w.heap.size + 1) (w.alloc (.cells #[.pointer (some ⟨sb, 0, none⟩)] 23)) W2) := fun W2 e' h1 h2 =>
        ⟨(congrArg (Value.int .i64) h2).symm, hb.out.trans (h1.mono (by have := hb.out.size; simp at this; omega))⟩
      have HN := Lib.hid hn2
      clear hn2
      by_cases hpq : px = q
      · have EP2 : Hid (posOf l k = q) := Lib.hid (by rw [EP.out, hpq])
        obtain rfl : q = px := hpq.symm
        have hd : (q != q) = false := by simp
        go_wp2_with (go_at_call 25; refine (put1_any q q _ pa wr hpbr hpr).mono ?_; rintro e w2 ⟨rfl, hb2⟩)
        go_roundg (l.length - (k + 1))
        case measure => omega
        case rel =>
          obtain ⟨q1, q2⟩ := HN.out w2 G hb2 (by rw [HSU.out]; unfold stepN; rw [if_neg (by rw [EP2.out]; simp)])
          exact ⟨k + 1, _, by go_num, rfl, by omega, by omega, Nat.le_refl _, q1, q2⟩
      · have hd : (px != q) = true := by simp [hpq]
        rcases hgr with rfl | ⟨hg1, hg2⟩
        · go_wp2_with (go_at_call 25; refine (put1_any px q _ pa wr hpbr hpr).mono ?_; rintro e w2 ⟨rfl, hb2⟩)
          go_roundg (l.length - (k + 1))
          case measure => omega
          case rel =>
            obtain ⟨q1, q2⟩ := HN.out w2 k hb2 (by rw [HSU.out]; unfold stepN; rw [if_pos ⟨by rw [EP.out]; exact hpq, .inl (by decide)⟩])
            exact ⟨k + 1, _, by go_num, rfl, by omega, by omega, Nat.le_refl _, q1, q2⟩
        · obtain ⟨G', rfl⟩ : ∃ G' : Nat, G = (G' : Int) := ⟨G.toNat, by omega⟩
          have hg3 : ¬ (G' : Int) < 0 := by omega
          have hc1 := fun (W : World) hW => hgap.out W k hW hk1 hlt
          have hc2 := fun (W : World) hW => hgap.out W G' hW (by omega) (by omega)
          have HC1 := Lib.hid hc1
          have HC2 := Lib.hid hc2
          clear hc1 hc2
          have ha1 := scan_lt l q k G'
          have HA1 := Lib.hid ha1
          clear ha1
          generalize gapOf l k = gk1 at HC1 HA1
          generalize gapOf l G' = gk2 at HC2 HA1
          have BW2 : ∀ w2, Below wr.heap.size wr w2 → Below (w.heap.size + 1) (w.alloc (.cells #[.pointer (some ⟨sb, 0, none⟩)] 23)) w2 := fun w2 h => hb.out.trans (h.mono (by have := hb.out.size; simp at this; omega))
          have HB2 := Lib.hid BW2
          clear BW2
          by_cases hcmp : gk1 < gk2
          · go_wp2_with (go_at_call 25; refine (put1_any _ q _ pa wr hpbr hpr).mono ?_; rintro e w2 ⟨rfl, hb2⟩)
            go_at_call 32; refine (HC1.out _ (HB2.out _ hb2)).mono ?_; rintro e w3 ⟨rfl, n3, rfl⟩
            go_wp2_with (go_at_call 32; refine (HC2.out _ (below_drewN (HB2.out _ hb2))).mono ?_; rintro e w4 ⟨rfl, n4, rfl⟩)
            go_roundg (l.length - (k + 1))
            case measure => omega
            case rel =>
              obtain ⟨q1, q2⟩ := HN.out _ k (below_drewN (n := n3 + n4) hb2) (by rw [HSU.out, HA1.out (by rw [EP.out]; exact hpq), if_pos hcmp])
              exact ⟨k + 1, _, by go_num, rfl, by omega, by omega, Nat.le_refl _, q1, q2⟩
          · go_wp2_with (go_at_call 25; refine (put1_any _ q _ pa wr hpbr hpr).mono ?_; rintro e w2 ⟨rfl, hb2⟩)
            go_at_call 32; refine (HC1.out _ (HB2.out _ hb2)).mono ?_; rintro e w3 ⟨rfl, n3, rfl⟩
            go_wp2_with (go_at_call 32; refine (HC2.out _ (below_drewN (HB2.out _ hb2))).mono ?_; rintro e w4 ⟨rfl, n4, rfl⟩)
            go_roundg (l.length - (k + 1))
            case measure => omega
            case rel =>
              obtain ⟨q1, q2⟩ := HN.out _ (G' : Int) (below_drewN (n := n3 + n4) hb2) (by rw [HSU.out, HA1.out (by rw [EP.out]; exact hpq), if_neg (by omega)])
              exact ⟨k + 1, _, by go_num, rfl, by omega, by omega, Nat.le_refl _, q1, q2⟩
    · have FIN : Hid (scanN l q k = scanN l q l.length) := Lib.hid (by
        have e : k = max l.length 1 := by omega
        rcases Nat.eq_zero_or_pos l.length with h0 | h0
        · rw [e, h0]; rfl
        · rw [e, Nat.max_eq_left h0])
      subst hsr
      go_wp2
      go_ret
      exact ⟨by rw [← FIN.out]; rfl, hbw⟩
end Go.Proofs.Ytiagpaoomijidaa
