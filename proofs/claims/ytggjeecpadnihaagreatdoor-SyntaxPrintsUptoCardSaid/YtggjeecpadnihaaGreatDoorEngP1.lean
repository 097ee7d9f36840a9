/- The engine, part P1: what operations look at, by their class. -/
import Derived.Test.YtggjeecpadnihaaGreatDoorEngO
import Derived.Orders
set_option linter.unusedSectionVars false
set_option linter.unusedVariables false
set_option linter.unusedSimpArgs false
namespace Go.Eng

section
variable {P : Program} {X : Cx} {h : AHeap} {rid : Nat}

theorem evs_congr {ev ev' : Operand → Option AVal} : ∀ (l : List Operand), (∀ x ∈ l, ev x = ev' x) → evs ev l = evs ev' l
  | [], _ => rfl
  | x :: l, h => by
    show (match ev x with | some v => (match evs ev l with | some r => some (v :: r) | none => none) | none => none) =
      (match ev' x with | some v => (match evs ev' l with | some r => some (v :: r) | none => none) | none => none)
    rw [h x (by simp), evs_congr l (fun y hy => h y (by simp [hy]))]

theorem evParts_congr {ev ev' : Operand → Option AVal} : ∀ (l : List (Nat × Operand)), (∀ x ∈ l.map (·.2), ev x = ev' x) → evParts ev l = evParts ev' l
  | [], _ => rfl
  | p :: l, h => by
    show (match ev p.2 with | some v => (match evParts ev l with | some r => some ((p.1, v) :: r) | none => none) | none => none) =
      (match ev' p.2 with | some v => (match evParts ev' l with | some r => some ((p.1, v) :: r) | none => none) | none => none)
    rw [h p.2 (by simp), evParts_congr l (fun y hy => h y (by simp at hy ⊢; exact .inr hy))]

theorem evO_congr {ev ev' : Operand → Option AVal} (x : Option Operand) (h : ∀ y, x = some y → ev y = ev' y) : evO ev x = evO ev' x := by
  cases x with
  | none => rfl
  | some x => show (match ev x with | some v => some (some v) | none => none) = (match ev' x with | some v => some (some v) | none => none); rw [h x rfl]

theorem callA_congr {ev ev' : Operand → Option AVal} (c : Call) (hh : ∀ x ∈ c.operands, ev x = ev' x) : callA P X ev h rid c = callA P X ev' h rid c := by
  unfold callA
  rw [evs_congr c.args.toList (fun x hx => hh x (by simp [Call.operands]; exact .inr (by simpa using hx)))]
  cases evs ev' c.args.toList with
  | none => rfl
  | some args =>
    cases hc : c.callee with
    | builtin b => rfl
    | value f => simp only []; rw [hh f (by simp [Call.operands, hc])]
    | invoke r m => simp only []; rw [hh r (by simp [Call.operands, hc])]

theorem deferA_congr {ev ev' : Operand → Option AVal} (c : Call) (hh : ∀ x ∈ c.operands, ev x = ev' x) : deferA ev h c = deferA ev' h c := by
  unfold deferA
  rw [evs_congr c.args.toList (fun x hx => hh x (by simp [Call.operands]; exact .inr (by simpa using hx)))]
  cases evs ev' c.args.toList with
  | none => rfl
  | some args =>
    cases hc : c.callee with
    | builtin b => rfl
    | value f => simp only []; rw [hh f (by simp [Call.operands, hc])]
    | invoke r m => rfl

set_option maxHeartbeats 1000000 in
theorem execA_congr {ev ev' : Operand → Option AVal} (op : Op) (hh : ∀ x ∈ op.operands, ev x = ev' x) : execA P X ev h rid op = execA P X ev' h rid op := by
  unfold execA
  cases op <;> simp only [Op.operands] at hh <;> simp only [compOp]
  case build t ps => rw [evParts_congr ps.toList fun x hx => hh x (by simpa using hx)]
  case buildSlice t n ps => rw [evParts_congr ps.toList fun x hx => hh x (by simpa using hx)]
  case makeFunc fn first captured =>
    cases fn with
    | func f =>
      simp only []
      rw [evs_congr first.toList fun x hx => hh x (by simp; exact .inl (by simpa using hx)), evs_congr captured.toList fun x hx => hh x (by simp; exact .inr (by simpa using hx))]
    | _ => rfl
  case makeMap t r => cases r <;> rfl
  case call c => exact callA_congr c hh
  case defer c => exact deferA_congr c hh
  case slice t x lo hi mx =>
    rw [hh x (by simp), evO_congr lo (fun y hy => hh y (by simp [hy])), evO_congr hi (fun y hy => hh y (by simp [hy])), evO_congr mx (fun y hy => hh y (by simp [hy]))]
  all_goals (first | rfl | (simp_all; done))

/-! ### Classes -/
theorem cls_noalloc {op : Op} (hc : clsOf P op = .pure ∨ clsOf P op = .read) : mayAlloc P op = false := by
  cases op
  case convert src dst x =>
    simp only [clsOf] at hc
    simp only [mayAlloc]
    split at hc <;> (rename_i h2; try rw [h2]) <;> (try (rename_i h1 h2' ; rw [h2'])) <;> first | rfl | (rcases hc with hc | hc <;> cases hc) | skip
    all_goals (split <;> simp_all)
  case call c =>
    obtain ⟨callee, args, argTypes⟩ := c
    cases callee with
    | builtin b => cases b <;> simp_all [clsOf, mayAlloc]
    | _ => simp_all [clsOf, mayAlloc]
  all_goals (first | rfl | (simp [clsOf] at hc; done))

theorem cls_alloc {op : Op} (hc : clsOf P op = .alloc) : mayAlloc P op = true := by
  cases op
  case convert src dst x =>
    simp only [clsOf] at hc
    simp only [mayAlloc]
    split at hc <;> first | (cases hc; done) | skip
    rename_i h1 h2
    rw [h2]
  case call c =>
    obtain ⟨callee, args, argTypes⟩ := c
    cases callee with
    | builtin b => cases b <;> simp_all [clsOf, mayAlloc]
    | _ => simp_all [clsOf, mayAlloc]
  all_goals (first | rfl | (simp [clsOf] at hc; done))

theorem v1_any {a : Option AVal} {v : AVal} {h' : AHeap} (hx : v1 h a = some (.val v h')) (h2 : AHeap) : v1 h2 a = some (.val v h2) := by
  cases a with
  | none => cases hx
  | some y => cases hx; rfl
theorem v1_heap {a : Option AVal} {v : AVal} {h' : AHeap} (hx : v1 h a = some (.val v h')) : h' = h := by
  cases a with
  | none => cases hx
  | some y => cases hx; rfl
theorem vh_eq {a : Option (AVal × AHeap)} {v : AVal} {h' : AHeap} (hx : vh a = some (.val v h')) : a = some (v, h') := by
  match a, hx with
  | some (y, z), hx => cases hx; rfl

theorem convA_pure {facts : List Fact} {src dst : TypeId} {x v : AVal} {h' : AHeap} (hc : (∃ k, P.underlying dst = some (.int k)) ∨ P.underlying dst = some .string ∧ ((∃ k, P.underlying src = some (.int k)) ∨ P.underlying src = some .string))
    (hx : convA P facts h rid src dst x = some (v, h')) (h2 : AHeap) (rid2 : Nat) : convA P facts h2 rid2 src dst x = some (v, h2) := by
  unfold convA at hx ⊢
  cases x with
  | sym i =>
    simp only at hx ⊢
    cases hf : factOf (.conv src dst) (.sym i) .nptr facts with
    | none =>
      rw [hf] at hx
      split at hx <;> cases hx
    | some y =>
      rw [hf] at hx
      split at hx
      · cases hx
      · rename_i hns
        cases hx
        cases hu : P.underlying dst with
        | none => rfl
        | some d =>
          cases d <;> first | rfl | (exact absurd hu (hns _))
  | int k n =>
    simp only at hx ⊢
    split at hx <;> first | (cases hx; simp_all; done) | cases hx
  | str l m =>
    simp only at hx ⊢
    split at hx
    · cases hx; simp_all
    · rename_i s d hs hd
      rcases hc with ⟨k, hk⟩ | ⟨hk, _⟩ <;> rw [hk] at hd <;> cases hd
    · cases hx
  | nslc =>
    simp only at hx ⊢
    split at hx
    · rename_i e hs hd
      rcases hc with ⟨k, hk⟩ | ⟨_, ⟨k, hk⟩ | hk⟩
      · rw [hk] at hd; cases hd
      · rw [hk] at hs; cases hs
      · rw [hk] at hs; cases hs
    · cases hx
  | nptr =>
    simp only at hx ⊢
    split at hx
    · rename_i t hs hd
      rcases hc with ⟨k, hk⟩ | ⟨hk, _⟩ <;> rw [hk] at hd <;> cases hd
    · rename_i t hs hd
      rcases hc with ⟨k, hk⟩ | ⟨hk, _⟩ <;> rw [hk] at hd <;> cases hd
    · cases hx
  | ptr b o =>
    simp only at hx ⊢
    split at hx
    · rename_i t e n op ro cs hs hd hb
      rcases hc with ⟨k, hk⟩ | ⟨hk, _⟩ <;> rw [hk] at hd <;> cases hd
    · rename_i u e n ro cs hs hd hb
      rcases hc with ⟨k, hk⟩ | ⟨hk, _⟩ <;> rw [hk] at hd <;> cases hd
    · cases hx
  | slc b o n c =>
    simp only at hx ⊢
    split at hx
    · rename_i e hs hd
      rcases hc with ⟨k, hk⟩ | ⟨_, ⟨k, hk⟩ | hk⟩
      · rw [hk] at hd; cases hd
      · rw [hk] at hs; cases hs
      · rw [hk] at hs; cases hs
    · cases hx
  | _ => cases hx

set_option maxHeartbeats 2000000 in
theorem pure_any {ev : Operand → Option AVal} {op : Op} {v : AVal} {h' : AHeap} (hc : clsOf P op = .pure) (hx : execA P X ev h rid op = some (.val v h')) (h2 : AHeap) (rid2 : Nat) :
    execA P X ev h2 rid2 op = some (.val v h2) := by
  unfold execA at hx ⊢
  cases op
  case move x => simp only [compOp] at hx ⊢; exact v1_any hx h2
  case assign x => simp only [compOp] at hx ⊢; exact v1_any hx h2
  case pick c a b =>
    simp only [compOp] at hx ⊢
    split at hx
    · exact v1_any hx h2
    · exact v1_any hx h2
    · cases hx
  case build t ps =>
    simp only [compOp] at hx ⊢
    split at hx
    · exact v1_any hx h2
    · cases hx
  case nilCheck x =>
    simp only [compOp] at hx ⊢
    split at hx <;> first | (cases hx; rfl) | cases hx
  case binOp op t x y p =>
    simp only [compOp] at hx ⊢
    split at hx
    · exact v1_any hx h2
    · cases hx
  case unOp op t x =>
    simp only [compOp] at hx ⊢
    split at hx
    · exact v1_any hx h2
    · cases hx
  case makeInterface t x =>
    simp only [compOp] at hx ⊢
    split at hx
    · cases hx
    · cases hx; rfl
    · cases hx
  case makeFunc fn first captured =>
    cases fn with
    | func f =>
      simp only [compOp] at hx ⊢
      split at hx
      · cases hx; rfl
      · cases hx
    | _ => cases hx
  case slice t x lo hi mx =>
    simp only [compOp] at hx ⊢
    split at hx
    · exact v1_any hx h2
    · cases hx
  case sliceToArrayPointer t x =>
    simp only [compOp] at hx ⊢
    split at hx
    · exact v1_any hx h2
    · cases hx
  case fieldAddr t x i =>
    simp only [compOp] at hx ⊢
    split at hx
    · exact v1_any hx h2
    · cases hx
  case field t x i =>
    simp only [compOp] at hx ⊢
    split at hx
    · exact v1_any hx h2
    · cases hx
  case indexAddr t x i =>
    simp only [compOp] at hx ⊢
    split at hx
    · exact v1_any hx h2
    · cases hx
  case index t x i =>
    simp only [compOp] at hx ⊢
    split at hx
    · exact v1_any hx h2
    · cases hx
  case typeAssert x t a ok =>
    simp only [compOp] at hx ⊢
    split at hx
    · exact v1_any hx h2
    · cases hx
  case extract x i =>
    simp only [compOp] at hx ⊢
    split at hx
    · exact v1_any hx h2
    · cases hx
  case convert src dst x =>
    simp only [compOp] at hx ⊢
    split at hx
    rotate_left
    · cases hx
    have hx := vh_eq hx
    have hcc : (∃ k, P.underlying dst = some (.int k)) ∨ P.underlying dst = some .string ∧ ((∃ k, P.underlying src = some (.int k)) ∨ P.underlying src = some .string) := by
      simp only [clsOf] at hc
      split at hc
      · rename_i k h1; exact .inl ⟨k, h1⟩
      · rename_i k h1 h3; exact .inr ⟨h3, .inl ⟨k, h1⟩⟩
      · rename_i h1 h3; exact .inr ⟨h3, .inr h1⟩
      all_goals cases hc
    rw [convA_pure hcc hx h2 rid2]; rfl
  case call c =>
    obtain ⟨callee, args, argTypes⟩ := c
    cases callee with
    | builtin b =>
      simp only [compOp, callA] at hx ⊢
      split at hx
      · cases hx
      · unfold builtinA at hx ⊢
        cases b <;> simp [clsOf] at hc <;> split at hx <;> first | (exact v1_any hx h2) | cases hx | simp_all
    | _ => simp [clsOf] at hc
  all_goals (simp [clsOf] at hc)

theorem alloc_any {ev : Operand → Option AVal} {op : Op} {v : AVal} {h' : AHeap} {obj : AObj} (hc : clsOf P op = .alloc) (hx : execA P X ev h rid op = some (.val v h')) (ho : h'.get rid = some obj) (h2 : AHeap) :
    execA P X ev h2 rid op = some (.val v (h2.put rid obj)) ∧ liveW (some obj) := by
  have put1 : ∀ {o : AObj}, (h.put rid o).get rid = some obj → o = obj := fun hg => by rw [AHeap.get_put, if_pos rfl] at hg; cases hg; rfl
  unfold execA at hx ⊢
  cases op
  case alloc t =>
    simp only [compOp] at hx ⊢
    have hx := vh_eq hx
    unfold allocA at hx ⊢
    split at hx
    · split at hx
      · cases hx
        rename_i hs
        have := put1 ho; subst this
        rw [if_pos hs]; exact ⟨rfl, rfl, rfl⟩
      · cases hx
    · cases hx
  case box t x =>
    simp only [compOp] at hx ⊢
    split at hx
    rotate_left
    · cases hx
    have hx := vh_eq hx
    unfold boxA at hx ⊢
    split at hx
    · cases hx
      rename_i hs
      have := put1 ho; subst this
      rw [if_pos hs]; exact ⟨rfl, rfl, rfl⟩
    · cases hx
  case buildSlice t n ps =>
    simp only [compOp] at hx ⊢
    split at hx
    rotate_left
    · cases hx
    have hx := vh_eq hx
    unfold buildSliceA at hx ⊢
    split at hx
    rotate_left
    · cases hx
    split at hx
    rotate_left
    · cases hx
    split at hx
    rotate_left
    · cases hx
    rename_i hs
    rw [if_pos hs]
    split at hx
    rotate_left
    · cases hx
    split at hx
    rotate_left
    · cases hx
    rename_i hs2
    rw [if_pos hs2]
    cases hx
    have := put1 ho; subst this
    exact ⟨rfl, rfl, rfl⟩
  case makeSlice t l c =>
    simp only [compOp] at hx ⊢
    split at hx
    rotate_left
    · cases hx
    have hx := vh_eq hx
    unfold makeSliceA at hx ⊢
    split at hx
    rotate_left
    · cases hx
    split at hx
    rotate_left
    · cases hx
    split at hx
    rotate_left
    · cases hx
    rename_i hs
    rw [if_pos hs]
    cases hx
    have := put1 ho; subst this
    exact ⟨rfl, rfl, rfl⟩
  case makeMap t r =>
    cases r with
    | some _ => cases hx
    | none =>
      cases hx
      have := put1 ho; subst this
      exact ⟨rfl, rfl, rfl⟩
  case convert src dst x =>
    have hcc : P.underlying src = some .string ∧ ∃ e, P.underlying dst = some (.slice e) := by
      simp only [clsOf] at hc
      split at hc <;> first | (cases hc; done) | skip
      rename_i e h1 h3
      exact ⟨h1, e, h3⟩
    obtain ⟨c1, e, c2⟩ := hcc
    simp only [compOp] at hx ⊢
    split at hx
    rotate_left
    · cases hx
    rename_i a ha
    have hx := vh_eq hx
    unfold convA at hx ⊢
    cases a <;> simp only [c1, c2] at hx ⊢
    case sym i => cases hx
    case int k n => cases hx
    case str l m =>
      split at hx
      rotate_left
      · cases hx
      cases hx
      have := put1 ho; subst this
      exact ⟨rfl, rfl, rfl⟩
    all_goals (cases hx)
  case call c =>
    obtain ⟨callee, args, argTypes⟩ := c
    cases callee with
    | builtin b => cases b <;> simp [clsOf] at hc
    | _ => simp [clsOf] at hc
  all_goals (simp [clsOf] at hc)

theorem read_heap {ev : Operand → Option AVal} {op : Op} {n : ANext} (hc : clsOf P op = .read) (hx : execA P X ev h rid op = some n) : ∃ v, n = .val v h := by
  unfold execA at hx
  cases op
  case load t a =>
    simp only [compOp] at hx
    split at hx
    · obtain ⟨v, _, rfl⟩ := v1_of hx; exact ⟨v, rfl⟩
    · cases hx
  case lookup t x k ok =>
    simp only [compOp] at hx
    split at hx
    · obtain ⟨v, _, rfl⟩ := v1_of hx; exact ⟨v, rfl⟩
    · cases hx
  case convert src dst x =>
    have hcc : (∃ e, P.underlying src = some (.slice e)) ∧ P.underlying dst = some .string := by
      simp only [clsOf] at hc
      split at hc <;> first | (cases hc; done) | skip
      rename_i e h1 h3
      exact ⟨⟨e, h1⟩, h3⟩
    obtain ⟨⟨e, c1⟩, c2⟩ := hcc
    simp only [compOp] at hx
    split at hx
    rotate_left
    · cases hx
    rename_i a ha
    obtain ⟨v, h', hx, rfl⟩ := vh_of hx
    unfold convA at hx
    cases a <;> simp only [c1, c2] at hx
    case sym i =>
      split at hx
      · cases hx; exact ⟨_, rfl⟩
      · cases hx
    case int k n => cases hx; exact ⟨_, rfl⟩
    case str l m => cases hx; exact ⟨_, rfl⟩
    case nslc =>
      split at hx
      · cases hx; exact ⟨_, rfl⟩
      · cases hx
    case slc b o n c =>
      split at hx
      rotate_left
      · cases hx
      split at hx
      rotate_left
      · cases hx
      split at hx
      rotate_left
      · cases hx
      cases hx; exact ⟨_, rfl⟩
    all_goals (cases hx)
  case call c =>
    obtain ⟨callee, args, argTypes⟩ := c
    cases callee with
    | builtin b =>
      simp only [compOp, callA] at hx
      split at hx
      · cases hx
      · unfold builtinA at hx
        cases b <;> simp [clsOf] at hc
        split at hx <;> first | (obtain ⟨v, _, rfl⟩ := v1_of hx; exact ⟨v, rfl⟩) | (cases hx; done) | simp_all
    | _ => simp [clsOf] at hc
  all_goals (simp [clsOf] at hc)
end
end Go.Eng
