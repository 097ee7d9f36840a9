import Derived.Test.YtiagpaoomijidaaSt12
import Derived.ArgAppend
namespace Go.Proofs.Ytiagpaoomijidaa
open Go.RowKit Go.Proofs
set_option linter.unusedVariables false
set_option linter.unusedSimpArgs false

theorem setCells_os (b : Nat) : ∀ (l : List Value) (o : Nat) (w : World), (w.setCells b o l).os = w.os
  | [], _, _ => rfl
  | v :: l, o, w => by rw [World.setCells, setCells_os b l]; rfl
theorem setCells_tape (b : Nat) : ∀ (l : List Value) (o : Nat) (w : World), (w.setCells b o l).tape = w.tape
  | [], _, _ => rfl
  | v :: l, o, w => by rw [World.setCells, setCells_tape b l]; rfl
theorem setCells_output (b : Nat) : ∀ (l : List Value) (o : Nat) (w : World), (w.setCells b o l).output = w.output
  | [], _, _ => rfl
  | v :: l, o, w => by rw [World.setCells, setCells_output b l]; rfl

/-- What slices.Insert of one item comes to. -/
def Inserted (w w' : World) (base : Nat) (sv : Value) (xs : List Value) (e : Ending) : Prop :=
  ∃ sv', e = .returned sv' ∧ RowAt w' base sv' (xs.length / 2) xs ∧ w.grownBy w' sv.ownBlock

theorem item_cells {w : World} {vb : Nat} {p : Int} {v : Value} (hv : w.heap[vb]? = some (.cells #[.int .i64 p, v] 57 (0, 0))) : ∀ j u, [Value.int .i64 p, v][j]? = some u → w.cell? ((⟨vb, 0, none⟩ : Addr).add j) = some u := by
  intro j u hu
  rw [addr_add, Nat.zero_add, cell_block hv]
  match j, hu with
  | 0, hu => exact hu
  | 1, hu => exact hu
  | j + 2, hu => simp at hu

set_option maxRecDepth 100000 in
theorem insert_nil (vb base : Nat) (p : Int) (v : Value) (w : World) (hv : w.heap[vb]? = some (.cells #[.int .i64 p, v] 57 (0, 0))) (h1 : v.oneCell' = true) (hb : base ≤ w.heap.size) :
    Calls Try.prog 23 #[.slice none 0 0, .int .i64 0, .slice (some ⟨vb, 0, none⟩) 1 1] w fun e w' => Inserted w w' base (.slice none 0 0) [.int .i64 p, v] e := by
  obtain ⟨i0, hi0, hz0, hz1, hz2⟩ := info_parts info57
  have hc : Hid (∀ j u, [Value.int .i64 p, v][j]? = some u → w.cell? ((⟨vb, 0, none⟩ : Addr).add j) = some u) := Lib.hid (item_cells hv)
  clear hv
  go_enter Try.func23, Try.ntmps23
  go_wp2_with (at_builtin; refine wpList_append_own _ rfl _ _ 49 rfl w.heap.size 57 i0 (.agg #[.int .i64 0, .slice none 0 0]) 2 32 Try.underlying49 hi0 hz0 hz1 hz2 rfl (by decide) _ 0 [] rfl (World.ownsRow_nil _ _ _ _) ⟨vb, 0, none⟩ 1 1 [.int .i64 p, v] rfl rfl hc.out ?c1 ?c2 ?c3 ?c4 ?_)
  case c1 => intro u hu; simp at hu; rcases hu with rfl | rfl; rfl; exact h1
  case c2 => unfold maxLen; omega
  case c3 => omega
  case c4 => exact Nat.le_refl _
  intro v' w' hown hgrow _
  go_wp2
  go_ret
  exact ⟨v', rfl, RowAt.base (.of_own (by simpa using hown)) hb, hgrow⟩

/-- A row that is there: what the walk asks. -/
theorem row_room {w : World} {base g n cap : Nat} {xs : List Value} (h : RowAt w base (.slice (some ⟨g, 0, none⟩) n cap) n xs) : base ≤ g ∧ n ≤ cap ∧ cap ≤ maxLen ∧ g < w.heap.size ∧ (∀ j, j < cap * 2 → (w.cell? ⟨g, j, none⟩).isSome = true ∧ w.frozen? ⟨g, j, none⟩ = false) := by
  rcases h.2 with ⟨h1, _⟩ | ⟨g', cap', cur, h1, h2, h3, h4, h5, h6, h7⟩
  · cases h1
  · cases h1
    refine ⟨h2, h4, h5, (Array.getElem?_eq_some_iff.1 h3).1, fun j hj => ⟨?_, ?_⟩⟩
    · rw [cell_block h3, Array.getElem?_eq_getElem (by omega)]; rfl
    · simp [World.frozen?, h3]

theorem end_room {w : World} {base g n cap : Nat} {p : Int} {v : Value} {xs : List Value} (h : RowAt w base (.slice (some ⟨g, 0, none⟩) n cap) n xs) (hr : n + 1 ≤ cap) :
    Inserted w (w.setCells g (n * 2) [.int .i64 p, v]) base (.slice (some ⟨g, 0, none⟩) n cap) (xs ++ [.int .i64 p, v]) (.returned (.slice (some ⟨g, 0, none⟩) (n + 1) cap)) := by
  have hx := h.1
  have el : (xs ++ [Value.int .i64 p, v]).length = n * 2 + 2 := by simp [hx]
  have e2 : (xs ++ [Value.int .i64 p, v]).length / 2 = n + 1 := by rw [el]; omega
  refine ⟨_, rfl, ?_, ?_⟩
  · rcases h.2 with ⟨h1, _⟩ | ⟨g', cap', cur, h1, h2, h3, h4, h5, h6, h7⟩
    · cases h1
    · cases h1
      rw [e2]
      refine ⟨by rw [el]; omega, .inr ⟨g, cap, _, rfl, h2, setCells_block (w := w) _ _ _ _ h3, hr, h5, by rw [spl_size]; exact h6, ?_⟩⟩
      rw [spl_list _ _ _ (by simp only [List.length_cons, List.length_nil]; omega), h7, ← List.append_assoc]
      exact List.take_left' (by rw [el]; omega)
  · exact ⟨setCells_os g _ _ _, setCells_tape g _ _ _, setCells_output g _ _ _, by rw [setCells_size]; exact Nat.le_refl _, fun k hk hne => setCells_other (fun e => hne (by subst e; rfl)) _ _ _⟩

theorem end_grow {w w' : World} {base g n cap : Nat} {p : Int} {v v' : Value} {xs : List Value} (hx : xs.length = n * 2) (hown : w'.ownsRow w.heap.size 57 2 v' (n + 1) (xs ++ [.int .i64 p, v])) (hg : w.grownBy w' none) (hb : base ≤ w.heap.size) :
    Inserted w w' base (.slice (some ⟨g, 0, none⟩) n cap) (xs ++ [.int .i64 p, v]) (.returned v') := by
  refine ⟨v', rfl, ?_, ⟨hg.os, hg.tape, hg.output, hg.size, fun k hk hne => hg.block k hk (by simp)⟩⟩
  have h := RowAt.base (RowAt.of_own hown) hb
  have e : (xs ++ [Value.int .i64 p, v]).length / 2 = n + 1 := by simp [hx]
  rw [e]; exact h

set_option maxRecDepth 100000 in
set_option maxHeartbeats 1000000 in
theorem insert_end (g n cap vb base : Nat) (p : Int) (v : Value) (xs : List Value) (w : World) (hr : RowAt w base (.slice (some ⟨g, 0, none⟩) n cap) n xs) (hv : w.heap[vb]? = some (.cells #[.int .i64 p, v] 57 (0, 0))) (h1 : v.oneCell' = true) (hb : base ≤ w.heap.size) (hn : n ≤ 1000) :
    Calls Try.prog 23 #[.slice (some ⟨g, 0, none⟩) n cap, .int .i64 n, .slice (some ⟨vb, 0, none⟩) 1 1] w fun e w' => Inserted w w' base (.slice (some ⟨g, 0, none⟩) n cap) (xs ++ [.int .i64 p, v]) e := by
  obtain ⟨i0, hi0, hz0, hz1, hz2⟩ := info_parts info57
  have hc : Hid (∀ j u, [Value.int .i64 p, v][j]? = some u → w.cell? ((⟨vb, 0, none⟩ : Addr).add j) = some u) := Lib.hid (item_cells hv)
  obtain ⟨r1, r2, r3, r4, r5⟩ := row_room hr
  have R5 : Hid (∀ j, j < cap * 2 → (w.cell? ⟨g, j, none⟩).isSome = true ∧ w.frozen? ⟨g, j, none⟩ = false) := Lib.hid r5
  have HR : Hid (RowAt w base (.slice (some ⟨g, 0, none⟩) n cap) n xs) := Lib.hid hr
  have hol : Hid (∀ j u, xs[j]? = some u → w.cell? ⟨g, 0 + j, none⟩ = some u) := Lib.hid hr.cells
  have hxl : Hid (xs.length = n * 2) := Lib.hid hr.1
  clear hv hr r5
  by_cases hcn : cap = n
  · subst hcn
    go_enter Try.func23, Try.ntmps23
    go_wp2_with (at_builtin; refine wpList_append_arg _ rfl _ _ 49 rfl 57 i0 (.agg #[.int .i64 0, .slice none 0 0]) 2 32 Try.underlying49 hi0 hz0 hz1 hz2 rfl (by decide) g 0 cap cap xs rfl hxl.out hol.out ⟨vb, 0, none⟩ 1 1 [.int .i64 p, v] rfl rfl hc.out ?c1 ?c2 ?c3 ?c4 ?c5 ?c6)
    case c1 => intro u hu; simp at hu; rcases hu with rfl | rfl; rfl; exact h1
    case c2 => intro hr; omega
    case c3 => unfold maxLen; omega
    case c4 => omega
    case c5 => first | (intro hr; omega) | (intro hr; simp at hr)
    case c6 =>
      intro v' w' hown hgrow
      go_wp2
      go_ret
      exact end_grow hxl.out hown hgrow hb
  · go_enter Try.func23, Try.ntmps23
    go_wp2_with (at_builtin; refine wpList_append_arg _ rfl _ _ 49 rfl 57 i0 (.agg #[.int .i64 0, .slice none 0 0]) 2 32 Try.underlying49 hi0 hz0 hz1 hz2 rfl (by decide) g 0 n cap xs rfl hxl.out hol.out ⟨vb, 0, none⟩ 1 1 [.int .i64 p, v] rfl rfl hc.out ?d1 ?d2 ?d3 ?d4 ?d5 ?d6)
    case d1 => intro u hu; simp at hu; rcases hu with rfl | rfl; rfl; exact h1
    case d2 => intro hr j hj; simp at hj; rw [Nat.zero_add]; exact R5.out _ (by omega)
    case d3 => unfold maxLen; omega
    case d4 => omega
    case d5 =>
      intro hr
      go_wp2
      go_ret
      exact end_room HR.out hr
    case d6 =>
      intro hr v' w' hown hgrow
      go_wp2
      go_ret
      exact end_grow hxl.out hown hgrow hb
end Go.Proofs.Ytiagpaoomijidaa
