/- The engine, part As: errors.As by its contract, at one target, inside a run. -/
import Derived.Test.YtggjeecpadnihaaGreatDoorEngW
set_option linter.unusedSimpArgs false
set_option linter.unusedVariables false
set_option linter.unusedSectionVars false
noncomputable section
namespace Go.Eng
open Go.RowKit

section
variable (P : Program)

/-- Is the type's handle known to the heap? -/
def hasH (h : AHeap) (g : Nat) : Bool :=
  match h.get g with
  | some (.row _ 1 false true cs) => (match cs.get 0 with | some (.sym k) => Nat.beq k KH | _ => false)
  | _ => false

/-- errors.As, where the error's own type is the target's element type. -/
def asExt (A : FuncId) (te tp : TypeId) (g : Nat) : CallF := fun t args h =>
  match t, args with
  | .fn f, [.iface a (.ptr e eo), .iface c (.ptr b o)] =>
    (match Nat.beq f A && Nat.beq a te && Nat.beq c tp && hasH h g with
     | true => (match storeA P h te b o (.ptr e eo) with | some h' => some (.ret (.bool true), h') | none => none)
     | false => none)
  | _, _ => none
end

section
variable {P : Program} {env : Nat → Value} {okc : FuncId → Code → Bool} {ρ : Rho} {h h' : AHeap} {w : World} {hv : Value}

theorem hasH_cell (hr : HRel P env okc ρ h w) {ng g : Nat} (hg : GlobOk ρ ng) (hlt : g < ng) (hk : env KH = hv) (hx : hasH h g = true) : w.cell? ⟨g, 0, none⟩ = some hv := by
  unfold hasH at hx
  split at hx
  rotate_left
  · cases hx
  rename_i e cs hget
  split at hx
  rotate_left
  · cases hx
  rename_i k hcs
  obtain rfl := Nat.eq_of_beq_eq_true hx
  obtain ⟨i, hi, hblk, hsh⟩ := hg g hlt
  obtain ⟨ob, ho, c, frz, rfl, c2, c3, c4, c5, c6, c7⟩ := hr.obj g _ i hget rfl hi
  obtain ⟨_, x, hx1, hx2, _⟩ := c4 0 _ hcs
  cases hx2
  rw [hk] at hx1
  rw [hsh] at hx1
  rw [hblk] at ho
  unfold World.cell?
  simp only [ho]
  simpa using hx1

theorem storeA_cell (hr : HRel P env okc ρ h w) {te b o e eo : Nat} {i : BI} (hi : ρ b = some i) (hp : storeA P h te b o (.ptr e eo) = some h') :
    sizeA P te = some 1 ∧ ∃ old, w.cell? ⟨i.blk, i.shift + o, none⟩ = some old ∧ w.frozen? ⟨i.blk, i.shift + o, none⟩ = false := by
  unfold storeA at hp
  split at hp
  rotate_left
  · cases hp
  rename_i n hs
  split at hp
  rotate_left
  · cases hp
  rename_i hlen
  have hn : n = 1 := by rw [← hlen]; rfl
  subst hn
  refine ⟨hs, ?_⟩
  unfold putCells at hp
  split at hp
  · rename_i e' n op cs hb
    split at hp
    · rename_i hc
      simp only [Bool.and_eq_true, decide_eq_true_eq] at hc
      have hlt : o + 1 ≤ n := hc.1
      obtain ⟨c, frz, hw, h1, h2, h3, h4, h5⟩ := row_of hr hb hi
      have hsz : i.shift + o < c.size := by omega
      refine ⟨c[i.shift + o], ?_, ?_⟩
      · unfold World.cell?
        simp only [hw]
        simp [hsz]
      · have hf := h4 rfl (i.shift + o) hsz
        unfold World.frozen?
        simp only [hw]
        simpa using hf
    · cases hp
  · cases hp

theorem asExt_ok {ng A te tp g : Nat} (he : EnvOk env) (hk : env KH = hv) (hlt : g < ng)
    (hAs : ∀ (e t : Addr) (old : Value) (w : World), w.cell? ⟨g, 0, none⟩ = some hv → w.cell? t = some old → w.frozen? t = false →
      Calls P A #[.iface te (.pointer (some e)), .iface tp (.pointer (some t))] w fun x w' => x = .returned (.bool true) ∧ ∃ w1, Below w.heap.size w w1 ∧ w' = w1.setCell t (.pointer (some e))) :
    CallOk P env okc ng (asExt P A te tp g) := by
  refine ⟨?_, ?_⟩
  · intro ρ h w hr hg f args e h' hx hb args' ha cs
    unfold asExt at hx
    split at hx
    rotate_left
    · cases hx
    rename_i t0 args0 f' a eb eo c b o heq
    cases heq
    split at hx
    rotate_left
    · cases hx
    rename_i hc
    simp only [Bool.and_eq_true] at hc
    obtain ⟨⟨⟨c1, c2⟩, c3⟩, c4⟩ := hc
    obtain rfl := Nat.eq_of_beq_eq_true c1
    obtain rfl := Nat.eq_of_beq_eq_true c2
    obtain rfl := Nat.eq_of_beq_eq_true c3
    split at hx
    rotate_left
    · cases hx
    rename_i h2 hst
    cases hx
    obtain ⟨x1, r1, rfl, hv1, ha1⟩ := ha.uncons
    obtain ⟨x2, r2, rfl, hv2, ha2⟩ := ha1.uncons
    rw [ha2.nil_iff]
    cases hv1 with | iface _ hv1 =>
    cases hv2 with | iface _ hv2 =>
    cases hv1 with | ptr _ hi1 =>
    cases hv2 with | ptr _ hi2 =>
    rename_i ie ib
    have hcell := hasH_cell hr hg hlt hk c4
    obtain ⟨hs, old, k1, k2⟩ := storeA_cell hr hi2 hst
    obtain ⟨x, w', fr, ⟨rfl, w1, hb1, rfl⟩, q1, q2, q3⟩ := hAs _ _ old w hcell k1 k2 cs
    have hgo1 : Go' P env okc (fun b => h.next ≤ b) ρ h w ρ h w1 := Go'.of_below hr hb1
    obtain ⟨w3, hrun, hgo2⟩ := storeA_sound (N := fun b => h.next ≤ b) he hgo1.rel hi2 (VRel.ptr (env := env) eo hi1) hst
    obtain ⟨_, old', j1, j2⟩ := storeA_cell hgo1.rel hi2 hst
    have hw3 : w3 = w1.setCell ⟨ib.blk, ib.shift + o, none⟩ (.pointer (some ⟨ie.blk, ie.shift + eo, none⟩)) := by
      simp only [storeVar, Sem.run_bind, run_size hs, Result.andThen, Value.cells, storeCells, Addr.add] at hrun
      simp at hrun
      rw [run_store P w1 _ _ _ (by rfl)] at hrun
      simp [j1, j2, Result.andThen] at hrun
      exact hrun.symm
    rw [hw3] at hgo2
    exact ⟨ρ, _, fr, _, q1, q2, q3, hgo1.trans hgo2, .bool true⟩
  · intro ρ h w hr hg b i args e h' hx
    unfold asExt at hx
    split at hx
    · rename_i heq; cases heq
    · cases hx
end
end Go.Eng
