import Derived.Test.YtiagpaoomijidaaSt4
import Derived.WalkSpells
import Derived.ArgAppend
namespace Go.Proofs.Ytiagpaoomijidaa
open Go.RowKit Go.Proofs
set_option linter.unusedVariables false

theorem add_block (a : Addr) (k : Nat) : (a.add k).block = a.block := by unfold Addr.add; split <;> rfl

/-- Bytes that are read somewhere. -/
def BytesIn (w : World) (v : Value) (b : List UInt8) : Prop :=
  (v = .slice none 0 0 ∧ b = []) ∨ ∃ a cap, v = .slice (some a) b.length cap ∧ ∀ j u, (b.map byteV)[j]? = some u → w.cell? (a.add j) = some u

theorem BytesAt.isIn {w : World} {base : Nat} {v : Value} {b : List UInt8} (h : BytesAt w base v b) : BytesIn w v b := by
  rcases h.2 with ⟨h1, h2⟩ | ⟨g, cap, cur, h1, h2⟩
  · exact .inl ⟨h1, List.length_eq_zero_iff.1 h2⟩
  · subst h1; exact .inr ⟨⟨g, 0, none⟩, cap, rfl, World.ownsRow.cells h rfl⟩

theorem info5 : (Try.prog.info? 5).map (fun i => (i.zero, i.size, i.bytes)) = some (some (.int .u8 0), 1, 1) := by kernel_rfl

def Cloned (w w' : World) (b : List UInt8) (e : Ending) : Prop := ∃ v', e = .returned v' ∧ BytesAt w' w.heap.size v' b ∧ Below w.heap.size w w'

theorem eql36_nil (W : World) : (binOp .eql 36 (.slice none 0 0) (.slice none 0 0)).run Try.prog W = .ok (.bool true) W := Lib.run_eql_slice_nil W 36 5 none 0 0 0 0 Try.underlying36
theorem eql36_some (a : Addr) (n c : Nat) (W : World) : (binOp .eql 36 (.slice (some a) n c) (.slice none 0 0)).run Try.prog W = .ok (.bool false) W := Lib.run_eql_slice_nil W 36 5 (some a) n c 0 0 Try.underlying36

theorem clone_nil (w : World) : Calls Try.prog 21 #[.slice none 0 0] w fun e w' => Cloned w w' [] e := by
  have hs := eql36_nil
  go_enter Try.func21, Try.ntmps21
  go_wp2
  go_ret
  exact ⟨_, rfl, World.ownsRow_nil _ _ _ _, Below.refl _ _⟩

theorem clone_some (a : Addr) (cap : Nat) (b : List UInt8) (w : World) (ha : ∀ j u, (b.map byteV)[j]? = some u → w.cell? (a.add j) = some u) (hb : b.length ≤ 140737488351232) (hblk : b ≠ [] → a.block < w.heap.size) :
    Calls Try.prog 21 #[.slice (some a) b.length cap] w fun e w' => Cloned w w' b e := by
  obtain ⟨i0, hi, hz0, hz1, hz2⟩ := info_parts info5
  have hs := eql36_some
  have HA : Hid (∀ j u, (b.map byteV)[j]? = some u → w.cell? (a.add j) = some u) := Lib.hid ha
  clear ha
  go_enter Try.func21, Try.ntmps21
  go_wp2_with (at_builtin; refine wpList_append_own _ rfl _ _ 36 rfl w.heap.size 5 i0 (.int .u8 0) 1 1 Try.underlying36 hi hz0 hz1 hz2 rfl (by decide) _ 0 [] rfl (World.ownsRow_made w #[] 0 (Nat.le_refl _) (Nat.zero_le _) rfl) a b.length cap (b.map byteV) rfl ?c1 ?c2 ?c3 ?c4 ?c5 ?c6 ?_)
  case c1 => simp
  case c2 =>
    intro j u hu
    have := HA.out j u hu
    have hb' : b ≠ [] := by rintro rfl; simp at hu
    rw [World.cell?_alloc_lt _ _ _ (by rw [add_block]; exact hblk hb')]
    exact this
  case c3 => intro u hu; simp at hu; obtain ⟨x, _, rfl⟩ := hu; rfl
  case c4 => unfold maxLen; omega
  case c5 => omega
  case c6 => simp
  intro v' w' hown hgrow _
  go_wp2
  go_ret
  refine ⟨v', rfl, by simpa [BytesAt] using hown, ((Below.refl _ _).alloc (Nat.le_refl _) _).grown hgrow (by simp) (fun k h => ?_)⟩
  simp [Value.ownBlock] at h; omega
end Go.Proofs.Ytiagpaoomijidaa
