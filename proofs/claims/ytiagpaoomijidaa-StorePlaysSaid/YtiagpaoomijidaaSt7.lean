import Derived.Test.YtiagpaoomijidaaSt6
namespace Go.Proofs.Ytiagpaoomijidaa
open Go.RowKit Go.Proofs
set_option linter.unusedVariables false

theorem info3 : (Try.prog.info? 3).map (fun i => (i.zero, i.size, i.bytes)) = some (some (.int .i64 0), 1, 8) := by kernel_rfl

theorem cell_new (w : World) (cs : Array Value) (t : TypeId) (i : Nat) : (w.alloc (.cells cs t)).cell? ⟨w.heap.size, i, none⟩ = cs[i]? := by
  have h : (w.alloc (.cells cs t)).heap[w.heap.size]? = some (.cells cs t (0, 0)) := by show (w.heap.push _)[w.heap.size]? = _; simp
  unfold World.cell?
  rw [h]
  rfl
theorem cell_new2 (w : World) (o : Obj) (cs : Array Value) (t : TypeId) (i : Nat) (v : Value) (h : cs[i]? = some v := by rfl) : ((w.alloc o).alloc (.cells cs t)).cell? ⟨w.heap.size + 1, i, none⟩ = some v := by
  have := cell_new (w.alloc o) cs t i
  rw [show (w.alloc o).heap.size = w.heap.size + 1 by simp] at this
  rw [this, h]

def intV (n : Int) : Value := .int .i64 n
def IntsAt (w : World) (base : Nat) (v : Value) (l : List Int) : Prop := w.ownsRow base 3 1 v l.length (l.map intV)

def AllPost (l : List (Int × List UInt8)) (w w' : World) (e : Ending) : Prop := ∃ v, e = .returned v ∧ IntsAt w' w.heap.size v (l.map (·.1)) ∧ Below w.heap.size w w'

theorem all_nil (w : World) : Calls Try.prog 16 #[.pointer none] w fun e w' => e = .returned (.slice none 0 0) ∧ w = w' := by
  go_enter Try.func16, Try.ntmps16
  go_wp2_with (go_at_call 20; refine (made_nil _).mono ?_; rintro e w' ⟨rfl, rfl⟩)
  go_ret
  exact ⟨rfl, rfl⟩
theorem all_zero (a : Addr) (w : World) (h : w.cell? a = some (.int .i64 0)) : Calls Try.prog 16 #[.pointer (some a)] w fun e w' => e = .returned (.slice none 0 0) ∧ w = w' := by
  go_enter Try.func16, Try.ntmps16
  go_wp2_with (go_at_call 20; refine (made_zero _ _ h).mono ?_; rintro e w' ⟨rfl, rfl⟩)
  go_ret
  exact ⟨rfl, rfl⟩

theorem BytesAt.form {w : World} {base : Nat} {v : Value} {b : List UInt8} (h : BytesAt w base v b) : ∃ o c, v = .slice o b.length c := by
  rcases h.2 with ⟨h1, h2⟩ | ⟨g, cap, cur, h1, h2⟩
  · exact ⟨none, 0, by rw [h2]; exact h1⟩
  · exact ⟨_, _, h1⟩

set_option maxRecDepth 100000 in
theorem all_any (sb base most : Nat) (l : List (Int × List UInt8)) (w : World) (h : StoreAt w base sb most l) (hm : 0 < most) (hl : l.length ≤ 1000) :
    Calls Try.prog 16 #[.pointer (some ⟨sb, 0, none⟩)] w fun e w' => AllPost l w w' e := by
  obtain ⟨i0, hi, hz0, hz1, hz2⟩ := info_parts info3
  obtain ⟨sv, it, h1, h2, h3⟩ := h
  have hlt : sb < w.heap.size := (Array.getElem?_eq_some_iff.1 h1).1
  have c0 : w.cell? ⟨sb, 0, none⟩ = some (.int .i64 most) := by simp [World.cell?, h1]
  have c1 : w.cell? ⟨sb, 1, none⟩ = some sv := by simp [World.cell?, h1]
  obtain ⟨so, cap, hsv⟩ : ∃ so cap, sv = .slice so it.length cap := by
    rcases h3.row.2 with ⟨h, h4⟩ | ⟨g, cap, cur, h, h5⟩
    · exact ⟨none, 0, by rw [h4]; exact h⟩
    · exact ⟨_, _, h⟩
  subst hsv
  have H1 : Hid (w.heap[sb]? = some (.cells #[.int .i64 most, .slice so it.length cap] 51 (0, 0))) := Lib.hid h1
  have HI : Hid (ItemsAt w base (.slice so it.length cap) it l) := Lib.hid h3
  have hil : it.length ≤ 1000 := by have := h3.len; omega
  clear h1 h3 h2
  go_enter Try.func16, Try.ntmps16
  go_wp2_with (go_at_call 20; refine (made_yes _ most _ hm c0).mono ?_; rintro e w' ⟨rfl, rfl⟩)
  go_loopg [3, 14] it.length (fun kx s3 s14 wr => ∃ (k : Nat) (v3 : Value), s14 = .int .i64 k ∧ v3 = s3 ∧ k ≤ it.length ∧ it.length - k ≤ kx ∧ Aside (IntsAt wr w.heap.size v3 ((l.take k).map (·.1))) ∧ Aside (Below w.heap.size w wr))
  case atStart => exact ⟨0, _, rfl, rfl, Nat.zero_le _, by omega, World.ownsRow_nil _ _ _ _, Below.refl _ _⟩
  case round =>
    obtain ⟨k, v3, rfl, rfl, hk, hg, hown, hb⟩ := hrel
    by_cases hlt : k < it.length
    · obtain ⟨x, y, hx, hy, hxy⟩ := item_at HI.out (show k < l.length by have := HI.out.len; omega)
      obtain ⟨g, cap', he, hg', k0, k1, k2, bi⟩ := store_cells H1.out HI.out hb.out hx
      cases he
      have hg1 : g < wr.heap.size := Nat.lt_of_lt_of_le hg' hb.out.size
      obtain ⟨px, vx⟩ := x
      obtain ⟨vo, vc, hvx⟩ := hxy.2.form
      simp only at k1 k2 hvx hxy
      subst hvx
      have ep : px = (l.map (·.1)).getD k 0 := by
        have : (l.map (·.1))[k]? = some y.1 := by rw [List.getElem?_map, hy]; rfl
        rw [hxy.1, List.getD_eq_getElem?_getD, this]; rfl
      have EP : Hid (px = (l.map (·.1)).getD k 0) := Lib.hid ep
      clear ep hxy hx hy
      have hown' : Aside (wr.ownsRow w.heap.size 3 1 v3 k (((l.take k).map (·.1)).map intV)) := by
        have h := hown.out
        unfold IntsAt at h
        rw [List.length_map, List.length_take, Nat.min_eq_left (by have := HI.out.len; omega)] at h
        exact h
      have hwz := hb.out.size
      go_wp2_with (at_builtin; refine wpList_append_own _ rfl _ _ 42 rfl w.heap.size 3 i0 (.int .i64 0) 1 8 Try.underlying42 hi hz0 hz1 hz2 rfl (by decide) _ k _ rfl ((hown'.out.alloc _).alloc _) _ 1 1 [.int .i64 px] rfl rfl ?c1 ?c2 ?c3 ?c4 ?c5 ?_)
      case c1 => intro j u hj; match j, hj with | 0, hj => simp at hj; subst hj; rw [addr_add]; exact cell_new2 _ _ _ _ _ _
      case c2 => intro u hu; simp at hu; subst hu; rfl
      case c3 => unfold maxLen; omega
      case c4 => omega
      case c5 => simp; omega
      intro v' w' hown2 hgrow _
      go_wp2
      go_roundg (it.length - (k + 1))
      case measure => omega
      case rel =>
        have e2 : (l.take (k + 1)).map (·.1) = (l.take k).map (·.1) ++ [px] := by
          rw [List.map_take, List.map_take, List.take_succ_eq_append_getElem (by simp; have := HI.out.len; omega)]
          rw [EP.out, List.getD_eq_getElem?_getD, List.getElem?_eq_getElem (by simp; have := HI.out.len; omega)]; rfl
        refine ⟨k + 1, v', by go_num, rfl, by omega, Nat.le_refl _, ?_, ?_⟩
        · show IntsAt w' w.heap.size v' _
          unfold IntsAt
          rw [e2]
          have hl : ((l.take k).map (·.1) ++ [px]).length = k + 1 := by simp; have := HI.out.len; omega
          rw [hl, List.map_append]
          simpa [List.map_take, intV] using hown2
        · exact (((hb.out).alloc hwz _).alloc (by simp; omega) _).grown hgrow (by simp; omega) (fun j hj => (hown'.out.lt j hj).1)
    · obtain rfl : k = it.length := by omega
      go_wp2
      go_ret
      refine ⟨v3, rfl, ?_, hb.out⟩
      have := hown.out
      rwa [List.take_of_length_le (by have := HI.out.len; omega)] at this
end Go.Proofs.Ytiagpaoomijidaa
