/- The engine, part L3: clear; a slice as an array's pointer; ranges over maps of one entry; functions without a body. -/
import Derived.Test.YtggjeecpadnihaaGreatDoorEngL2
import Derived.Lib.MakeNoZero
import Derived.Lib.Bytealg
set_option linter.unusedSectionVars false
set_option linter.unusedVariables false
set_option linter.unusedSimpArgs false
namespace Go.Eng
open Go.Builtin

section
variable {P : Program} {env : Nat → Value} {okc : FuncId → Code → Bool} {N : Nat → Prop} {ρ ρ' : Rho} {h h' : AHeap} {w w' : World}

theorem clearA_sound (he : EnvOk env) (hr : HRel P env okc ρ h w) {t ty : TypeId} {ts : List TypeId} {x : AVal} {cx : Value} (hx : VRel ρ env x cx)
    (ha : clearA P h t x = some h') : ∃ w', (Builtin.clear_ ⟨t :: ts⟩ ty #[cx]).run P w = .ok (.tuple #[]) w' ∧ Go' P env okc N ρ h w ρ h' w' := by
  unfold clearA at ha
  split at ha
  · rename_i e hu
    cases ha; cases hx
    exact ⟨w, by simp [Builtin.clear_, run_und hu], .refl hr⟩
  · rename_i e b o cap hu
    cases ha
    refine ⟨w, ?_, .refl hr⟩
    cases hx <;> simp [Builtin.clear_, run_und hu]
  · rename_i e b o n cap hn hu
    split at ha
    rotate_left
    · cases ha
    rename_i z hz
    split at ha
    rotate_left
    · cases ha
    rename_i hzs
    obtain ⟨zv, hzr, hzv⟩ := run_zero' (ρ := ρ) (env := env) hz
    have hzc := cells_rel' he hzv (zeroA_ne hz)
    have hn0 : n ≠ 0 := fun e => hn e
    have hsz : zv.cells.size = z.cells.length := by rw [← Array.length_toList]; exact hzc.1.symm
    have hrel : VRels ρ env (repeatA n z.cells []) (zeroCells zv.cells n).toList := by
      by_cases h0 : z.cells.length = 0
      · have e1 : repeatA n z.cells [] = [] := List.length_eq_zero_iff.1 (by rw [repeatA_len, h0, Nat.mul_zero])
        have e2 : (zeroCells zv.cells n).toList = [] := List.length_eq_zero_iff.1 (by rw [Array.length_toList, zeroCells_size, hsz, h0, Nat.mul_zero])
        rw [e1, e2]; exact .nil
      · have := zeros_rel hzc n (fun _ => by omega)
        rw [← hsz] at this
        exact this
    have hgo : ∀ (a : Addr) (c : Nat) (i : BI), ρ b = some i → a = ⟨i.blk, i.shift + o, none⟩ → cx = .slice (some a) n c →
        ∃ w', (Builtin.clear_ ⟨t :: ts⟩ ty #[cx]).run P w = .ok (.tuple #[]) w' ∧ Go' P env okc N ρ h w ρ h' w' := by
      rintro a c i hi rfl rfl
      obtain ⟨w', hrun, hg⟩ := putCells_sound (N := N) he hr hi hrel ha
      refine ⟨w', ?_, hg⟩
      obtain ⟨k, rfl⟩ : ∃ k, n = k + 1 := ⟨n - 1, by omega⟩
      simp [Builtin.clear_, run_und hu, hzr, hrun]
    cases hx with
    | slcK _ _ c hi => exact hgo _ _ _ hi rfl rfl
    | slcO hi h0 h1 h2 => exact hgo _ _ _ hi rfl rfl
    | slcE _ off hi hc => exact absurd rfl hn0
  · cases ha

theorem arrayAtA_sound {t : TypeId} {x v : AVal} {cx : Value} (hx : VRel ρ env x cx) (ha : arrayAtA P t x = some v) :
    ∃ r, (Instr.arrayAt t cx).run P w = .ok r w ∧ VRel ρ env v r := by
  unfold arrayAtA at ha
  split at ha
  rotate_left
  · cases ha
  rename_i n e b o len cap hu
  split at ha
  rotate_left
  · cases ha
  rename_i hle
  cases ha
  have hle := ble_le hle
  cases hx with
  | slcK _ _ c hi => exact ⟨_, by simp [Instr.arrayAt, run_und hu, show ¬ len < n + 1 by omega], .ptr _ hi⟩
  | slcO hi h0 h1 h2 => exact ⟨_, by simp [Instr.arrayAt, run_und hu, show ¬ len < n + 1 by omega], .ptr _ hi⟩
  | slcE _ off hi hc => omega

/-! ### Ranges over maps -/
theorem rangeMapA_sound (hr : HRel P env okc ρ h w) {rid : Nat} {t : TypeId} {x v : AVal} {cx : Value} (hx : VRel ρ env x cx)
    (hrid : ρ rid = none) (hn : rid < h.next) (hN : N rid) (ha : rangeMapA P h rid t x = some (v, h')) :
    Makes P env okc N ρ h w (Instr.range t cx) v h' := by
  unfold rangeMapA at ha
  split at ha
  rotate_left
  · cases ha
  rename_i k e b hu
  split at ha
  rotate_left
  · cases ha
  rename_i es clock hget
  cases ha
  cases hx with | map hi =>
  rename_i i
  obtain ⟨es', hw, hent⟩ := map_of hr hget hi
  have hne : b ≠ rid := fun e => by subst e; rw [hrid] at hi; cases hi
  have hgo := Go'.alloc (N := N) (o := .miter b clock [] clock) (ob := .mapIter (some i.blk) clock #[] clock) (i := ⟨w.heap.size, 0, 0, 0⟩) hr hrid hn hN rfl
    ⟨i, by rw [Rho.set_ne _ _ hne]; exact hi, rfl, rfl⟩
  refine ⟨.pointer (some ⟨w.heap.size, 0, none⟩), ρ.set rid ⟨w.heap.size, 0, 0, 0⟩, w.alloc (.mapIter (some i.blk) clock #[] clock), ?_, ?_, hgo⟩
  · simp only [Instr.range, Sem.run_bind, run_und hu, Result.andThen_ok, run_getObj_map hw, run_newObj, Sem.run_pure]
    rfl
  · have := VRel.ptr (env := env) (ρ := ρ.set rid ⟨w.heap.size, 0, 0, 0⟩) 0 (Rho.set_same ρ rid ⟨w.heap.size, 0, 0, 0⟩)
    exact this

theorem hasN_eq (l : List Nat) (n : Nat) : hasN l n = l.contains n := by
  induction l with
  | nil => rfl
  | cons a l ih =>
    unfold hasN
    cases hb : Nat.beq a n with
    | true => have := Nat.eq_of_beq_eq_true hb; subst this; simp
    | false =>
      have hne : ¬ n = a := fun e => by subst e; rw [Nat.beq_refl] at hb; cases hb
      simp only [ih]
      rw [List.contains_cons]
      have : (n == a) = false := by simpa using hne
      rw [this, Bool.false_or]

theorem leftA_rel (seen : List Nat) : ∀ {es : List (AVal × AVal × Nat)} {es' : List MapEntry}, EntRel env ρ es es' → EntRel env ρ (leftA seen es) (es'.filter fun e => !seen.contains e.born)
  | [], [], _ => trivial
  | [], _ :: _, h => h.elim
  | _ :: _, [], h => h.elim
  | (k, v, n) :: l, e :: l', h => by
    obtain ⟨h1, h2, h3, h4⟩ := h
    have ih := leftA_rel seen h4
    unfold leftA
    rw [hasN_eq, List.filter_cons, h3]
    cases seen.contains n with
    | true => simpa using ih
    | false => exact ⟨h1, h2, h3, ih⟩

theorem allNewA_eq (last : Nat) : ∀ {es : List (AVal × AVal × Nat)} {es' : List MapEntry}, EntRel env ρ es es' → allNewA last es = es'.all fun e => decide (e.born ≥ last)
  | [], [], _ => rfl
  | [], _ :: _, h => h.elim
  | _ :: _, [], h => h.elim
  | (k, v, n) :: l, e :: l', h => by
    obtain ⟨h1, h2, h3, h4⟩ := h
    unfold allNewA
    rw [List.all_cons, h3, ← allNewA_eq last h4]
    cases hb : Nat.ble last n with
    | true => simp [ble_le hb]
    | false =>
      have : ¬ last ≤ n := fun e => by rw [Nat.ble_eq_true_of_le e] at hb; cases hb
      simp [this]

theorem EntRel.isEmpty : ∀ {es : List (AVal × AVal × Nat)} {es' : List MapEntry}, EntRel env ρ es es' → es'.isEmpty = es.isEmpty
  | [], [], _ => rfl
  | [], _ :: _, h => h.elim
  | _ :: _, [], h => h.elim
  | _ :: _, _ :: _, _ => rfl

theorem iter_of (hr : HRel P env okc ρ h w) {r b since last : Nat} {seen : List Nat} {i : BI} (hb : h.get r = some (.miter b since seen last)) (hi : ρ r = some i) :
    ∃ i', ρ b = some i' ∧ i.shift = 0 ∧ w.heap[i.blk]? = some (.mapIter (some i'.blk) since ⟨seen⟩ last) := by
  obtain ⟨ob, hw, i', h1, h2, rfl⟩ := hr.obj r _ i hb rfl hi
  exact ⟨i', h1, h2, hw⟩

theorem run_getObj_iter {r : Nat} {m : Option Nat} {since last : Nat} {seen : Array Nat} (hw : w.heap[r]? = some (.mapIter m since seen last)) : (getObj r).run P w = .ok (.mapIter m since seen last) w := by
  simp [getObj, Sem.run, hw]

theorem run_mapNext1 : (choose (.mapNext 1)).run P w = .ok 0 w := by
  simp only [run_choose, Question.forced, Question.cut, Nat.mod_one]
  rfl

theorem run_next_end {r m since last clock : Nat} {seen : Array Nat} {es : Array MapEntry} {ty : TypeId} (hw : w.heap[r]? = some (.mapIter (some m) since seen last)) (hwm : w.heap[m]? = some (.map es clock))
    (hcond : (!seen.isEmpty && !es.isEmpty && es.all fun e => decide (e.born ≥ last)) = false) (hL : (es.filter fun e => !seen.contains e.born) = #[]) :
    (Instr.next (.pointer (some ⟨r, 0, none⟩)) false ty).run P w = .ok (.tuple #[.bool false]) w := by
  unfold Instr.next
  simp only [Sem.run_bind, run_getObj_iter hw, Result.andThen_ok, run_getObj_map hwm]
  rw [hL, if_neg (by rw [hcond]; decide)]
  have hc : ((if (Array.filter (fun x : MapEntry => decide (x.born < since)) #[]).isEmpty = true then #[none] else #[]) ++
                    Array.map some
                      (Array.filter (fun x : MapEntry => decide (x.born < since)) #[] ++
                        Array.filter (fun x : MapEntry => decide (x.born ≥ since)) #[])) = (#[none] : Array (Option MapEntry)) := by simp
  rw [hc]
  simp only [Sem.run_bind]
  rw [show (#[none] : Array (Option MapEntry)).size = 1 from rfl, run_mapNext1]
  rfl

theorem run_next_one {r m since last clock : Nat} {seen : Array Nat} {es : Array MapEntry} {ty : TypeId} {e : MapEntry} (hw : w.heap[r]? = some (.mapIter (some m) since seen last)) (hwm : w.heap[m]? = some (.map es clock))
    (hcond : (!seen.isEmpty && !es.isEmpty && es.all fun e => decide (e.born ≥ last)) = false) (hL : (es.filter fun e => !seen.contains e.born) = #[e]) (ho : e.born < since) :
    (Instr.next (.pointer (some ⟨r, 0, none⟩)) false ty).run P w = .ok (.tuple #[.bool true, e.key, e.val]) (setAt' w r (.mapIter (some m) since (seen.push e.born) clock)) := by
  unfold Instr.next
  simp only [Sem.run_bind, run_getObj_iter hw, Result.andThen_ok, run_getObj_map hwm]
  rw [hL, if_neg (by rw [hcond]; decide)]
  have h1 : (#[e].filter (fun x : MapEntry => decide (x.born < since))) = #[e] := by simp [ho]
  have h2 : (#[e].filter (fun x : MapEntry => decide (x.born ≥ since))) = #[] := by simp; omega
  have hc : ((if (Array.filter (fun x : MapEntry => decide (x.born < since)) #[e]).isEmpty = true then #[none] else #[]) ++
                    Array.map some
                      (Array.filter (fun x : MapEntry => decide (x.born < since)) #[e] ++
                        Array.filter (fun x : MapEntry => decide (x.born ≥ since)) #[e])) = (#[some e] : Array (Option MapEntry)) := by rw [h1, h2]; simp
  rw [hc]
  simp only [Sem.run_bind]
  rw [show (#[some e] : Array (Option MapEntry)).size = 1 from rfl, run_mapNext1]
  have hw' : w.heap[r]? = some (.mapIter (some m) since seen last) := hw
  have hset : (setObj r (.mapIter (some m) since (seen.push e.born) clock)).run P w = .ok () (setAt' w r (.mapIter (some m) since (seen.push e.born) clock)) := by
    simp [setObj, Sem.run, hw', setAt']
  simp only [Result.andThen_ok, List.getElem?_toArray, List.getElem?_cons_zero, Sem.run_bind, hset, Sem.run_pure]

set_option maxHeartbeats 1000000 in
theorem nextA_sound (hr : HRel P env okc ρ h w) {x v : AVal} {cx : Value} {s : Bool} {ty : TypeId} (hx : VRel ρ env x cx)
    (ha : nextA h x s = some (v, h')) : Makes P env okc N ρ h w (Instr.next cx s ty) v h' := by
  unfold nextA at ha
  split at ha
  rotate_left
  · cases ha
  rename_i r
  split at ha
  rotate_left
  · cases ha
  rename_i b since seen last hget
  split at ha
  rotate_left
  · cases ha
  rename_i es clock hgm
  cases hx with | ptr o hi =>
  rename_i i
  obtain ⟨i', hi', hs0, hw⟩ := iter_of hr hget hi
  obtain ⟨es', hwm, hent⟩ := map_of hr hgm hi'
  split at ha
  · cases ha
  rename_i hc
  have hcond : (!(⟨seen⟩ : Array Nat).isEmpty && !es'.isEmpty && es'.all fun e => decide (e.born ≥ last)) = false := by
    have e1 : es'.isEmpty = es.isEmpty := by rw [← hent.isEmpty]; simp [Array.isEmpty, List.isEmpty_iff]
    have e2 : (⟨seen⟩ : Array Nat).isEmpty = seen.isEmpty := by cases seen <;> rfl
    have e3 : es'.all (fun e => decide (e.born ≥ last)) = allNewA last es := by rw [allNewA_eq last hent]; simp
    rw [e1, e2, e3]
    simpa using hc
  have hleft := leftA_rel seen hent
  have hleft' : (es'.filter fun e => !(⟨seen⟩ : Array Nat).contains e.born).toList = es'.toList.filter fun e => !seen.contains e.born := by
    rw [Array.toList_filter]
    congr 1
    funext e
    simp
  rw [← hleft'] at hleft
  have hptr : (Value.pointer (some ⟨i.blk, i.shift + 0, none⟩)) = .pointer (some ⟨i.blk, 0, none⟩) := by rw [hs0]
  rw [hptr]
  split at ha
  · -- none is left
    rename_i hl
    cases ha
    rw [hl] at hleft
    have hL0 : (es'.filter fun e => !(⟨seen⟩ : Array Nat).contains e.born) = #[] := by
      generalize (es'.filter fun e => !(⟨seen⟩ : Array Nat).contains e.born) = L at hleft
      cases L with | mk l => cases l with
      | nil => rfl
      | cons _ _ => exact hleft.elim
    exact ⟨_, ρ, w, run_next_end hw hwm hcond hL0, VRels.tup (.cons (.bool false) .nil), .refl hr⟩
  · -- one is left, that was there
    rename_i e hl
    split at ha
    rotate_left
    · cases ha
    rename_i hold
    cases ha
    have hold := ble_le hold
    obtain ⟨k, v0, n⟩ := e
    rw [hl] at hleft
    obtain ⟨e', hLe, hk, hv, hb⟩ : ∃ e', (es'.filter fun e => !(⟨seen⟩ : Array Nat).contains e.born) = #[e'] ∧ VRel ρ env k e'.key ∧ VRel ρ env v0 e'.val ∧ e'.born = n := by
      generalize (es'.filter fun e => !(⟨seen⟩ : Array Nat).contains e.born) = L at hleft
      cases L with | mk l => cases l with
      | nil => exact hleft.elim
      | cons e' l => cases l with
        | nil => exact ⟨e', rfl, hleft.1, hleft.2.1, hleft.2.2.1⟩
        | cons _ _ => exact hleft.2.2.2.elim
    simp only at hold
    have hput : Go' P env okc N ρ h w ρ (h.put r (.miter b since (seen ++ [n]) clock)) (setAt' w i.blk (.mapIter (some i'.blk) since ((⟨seen⟩ : Array Nat).push e'.born) clock)) :=
      Go'.put hr hget ⟨rfl, rfl⟩ hi ⟨i', hi', hs0, by rw [hb]; simp⟩
    exact ⟨_, ρ, _, run_next_one hw hwm hcond hLe (by omega), VRels.tup (.cons (.bool true) (.cons hk (.cons hv .nil))), hput⟩
  · cases ha

theorem lastN_eq : ∀ (l : List Nat), lastN l = l.getLast?
  | [] => rfl
  | [a] => rfl
  | a :: b :: l => by rw [lastN, lastN_eq (b :: l), List.getLast?_cons_cons]; intro h; cases h

theorem bornA_rel {n : Nat} : ∀ {es : List (AVal × AVal × Nat)} {es' : List MapEntry} {v : AVal}, EntRel env ρ es es' → bornA n es = some v →
    ∃ e, es'.find? (·.born == n) = some e ∧ VRel ρ env v (.tuple #[e.key, e.val])
  | [], [], v, _, h => by cases h
  | [], _ :: _, _, h, _ => h.elim
  | _ :: _, [], _, h, _ => h.elim
  | (k, x, m) :: l, e :: l', v, h, hb => by
    obtain ⟨h1, h2, h3, h4⟩ := h
    unfold bornA at hb
    rw [List.find?_cons]
    cases hc : Nat.beq m n with
    | true =>
      rw [hc] at hb; cases hb
      have := Nat.eq_of_beq_eq_true hc
      have : (e.born == n) = true := by rw [h3]; simpa using this
      rw [this]
      exact ⟨e, rfl, VRels.tup (.cons h1 (.cons h2 .nil))⟩
    | false =>
      rw [hc] at hb
      have : (e.born == n) = false := by
        rw [h3]
        cases he : m == n with
        | false => rfl
        | true => have := eq_of_beq he; subst this; rw [Nat.beq_refl] at hc; cases hc
      rw [this]
      exact bornA_rel h4 hb

theorem entryA_sound (hr : HRel P env okc ρ h w) {x v : AVal} {cx : Value} (hx : VRel ρ env x cx)
    (ha : entryA h x = some v) : ∃ r, (Instr.entry cx).run P w = .ok r w ∧ VRel ρ env v r := by
  unfold entryA at ha
  split at ha
  rotate_left
  · cases ha
  rename_i r
  split at ha
  rotate_left
  · cases ha
  rename_i b since seen last hget
  split at ha
  rotate_left
  · cases ha
  rename_i es clock n hgm hln
  split at ha
  rotate_left
  · cases ha
  rename_i hcl
  obtain rfl := Nat.eq_of_beq_eq_true hcl
  cases hx with | ptr o hi =>
  rename_i i
  obtain ⟨i', hi', hs0, hw⟩ := iter_of hr hget hi
  obtain ⟨es', hwm, hent⟩ := map_of hr hgm hi'
  obtain ⟨e, he, hv⟩ := bornA_rel hent ha
  refine ⟨_, ?_, hv⟩
  rw [hs0]
  have hb : (⟨seen⟩ : Array Nat).back? = some n := by rw [lastN_eq] at hln; simpa using hln
  have he' : es'.find? (·.born == n) = some e := by rw [← Array.find?_toList]; exact he
  unfold Instr.entry
  simp only [Nat.zero_add, Sem.run_bind, run_getObj_iter hw, Result.andThen_ok, hb, run_getObj_map hwm, bne_self_eq_false, Bool.false_eq_true, if_false, he', Sem.run_pure]

/-! ### Functions without a body -/
theorem extern_run {f : FuncId} {fn : Func} {nm : String} {g : Array Value → Sem Value} {args : Array Value} {x : Value} (hf : P.funcs[f]? = some fn) (hb : fn.body.isNone = true) (n1 : fn.name = nm) (n2 : fn.origin = "")
    (hr : (nm == "runtime.NumGoroutine") = false) (hnext : Extern.allNextRows.lookup nm = none) (hfind : Extern.find fn = some g) (hg : (g args).run P w = .ok x w') :
    (callFunc f args).run P w = .ok (.value x) w' := by
  have h1 : Extern.findNext fn = none := by
    simp only [Extern.findNext, n1, n2, hnext, noEscape_next', Option.map_none]
    rfl
  have h3 : (fn.name == "runtime.NumGoroutine") = false := by rw [n1]; exact hr
  have hb' : fn.body = none := by simpa using hb
  simp only [callFunc, Sem.run_bind, run_program, Result.andThen_ok, hf, h3, hb', Bool.false_eq_true, if_false, if_true, run_mark, h1, hfind]
  rw [if_pos (by rfl)]
  simp only [Sem.run_bind, run_mark, Result.andThen_ok, hg, Sem.run_pure]

theorem count_next : (Extern.allNextRows.lookup "internal/bytealg.CountString") = none := by kernel_rfl
theorem count_gen : (Extern.allGenericRows.lookup "internal/bytealg.CountString") = none := by kernel_rfl
theorem count_typed : (Extern.allTypedRows.lookup "internal/bytealg.CountString") = none := by kernel_rfl
theorem count_row : (Extern.allRows.lookup "internal/bytealg.CountString") = some Extern.BytealgCount.count := by kernel_rfl
theorem index_next : (Extern.allNextRows.lookup "internal/bytealg.IndexByteString") = none := by kernel_rfl
theorem index_gen : (Extern.allGenericRows.lookup "internal/bytealg.IndexByteString") = none := by kernel_rfl
theorem index_typed : (Extern.allTypedRows.lookup "internal/bytealg.IndexByteString") = none := by kernel_rfl
theorem index_row : (Extern.allRows.lookup "internal/bytealg.IndexByteString") = some Extern.BytealgIndexByte.indexByte := by kernel_rfl
theorem noZero_next : (Extern.allNextRows.lookup "internal/bytealg.MakeNoZero") = none := by kernel_rfl
theorem noZero_gen : (Extern.allGenericRows.lookup "internal/bytealg.MakeNoZero") = none := by kernel_rfl
theorem find_plain {fn : Func} {nm : String} {g : Array Value → Sem Value} (n1 : fn.name = nm) (h1 : Extern.allGenericRows.lookup nm = none) (h2 : Extern.allTypedRows.lookup nm = none) (h3 : Extern.allRows.lookup nm = some g) : Extern.find fn = some g := by
  simp only [Extern.find, n1, h1, h2, h3, Option.map_none]
  rfl
theorem noZero_typed : (Extern.allTypedRows.lookup "internal/bytealg.MakeNoZero") = some Extern.BytealgMakeNoZero.makeNoZero := by kernel_rfl


theorem byte_beq {m c : Nat} (hc : c ≤ 255) : (UInt8.ofNat (m % 256) == UInt8.ofNat c) = Nat.beq (m % 256) c := by
  have hm : m % 256 < 256 := Nat.mod_lt _ (by decide)
  cases hb : Nat.beq (m % 256) c with
  | true => have := Nat.eq_of_beq_eq_true hb; rw [this]; simp
  | false =>
    have hne : ¬ m % 256 = c := fun e => by rw [e, Nat.beq_refl] at hb; cases hb
    rw [beq_eq_false_iff_ne]
    intro e
    have := congrArg UInt8.toNat e
    simp only [UInt8.toNat_ofNat'] at this
    omega

theorem countB_eq (c : Nat) (hc : c ≤ 255) : ∀ (l m a : Nat), countB l m c a = a + (bytesL l m).count (UInt8.ofNat c)
  | 0, m, a => rfl
  | l + 1, m, a => by
    show countB l (m / 256) c (match Nat.beq (m % 256) c with | true => Nat.succ a | false => a) = _
    rw [countB_eq c hc l (m / 256) _]
    show _ = a + (UInt8.ofNat (m % 256) :: bytesL l (m / 256)).count _
    rw [List.count_cons, byte_beq hc]
    cases Nat.beq (m % 256) c with
    | true => simp; omega
    | false => simp

theorem indexB_eq (c : Nat) (hc : c ≤ 255) : ∀ (l m i : Nat), indexB l m c i = if Lib.indexByte (bytesL l m) (UInt8.ofNat c) = -1 then -1 else (i : Int) + Lib.indexByte (bytesL l m) (UInt8.ofNat c)
  | 0, m, i => rfl
  | l + 1, m, i => by
    show (match Nat.beq (m % 256) c with | true => Int.ofNat i | false => indexB l (m / 256) c (Nat.succ i)) = _
    show _ = if Lib.indexByte (UInt8.ofNat (m % 256) :: bytesL l (m / 256)) (UInt8.ofNat c) = -1 then -1 else (i : Int) + Lib.indexByte (UInt8.ofNat (m % 256) :: bytesL l (m / 256)) (UInt8.ofNat c)
    unfold Lib.indexByte
    rw [byte_beq hc]
    cases Nat.beq (m % 256) c with
    | true => simp
    | false =>
      simp only [Bool.false_eq_true, if_false]
      rw [indexB_eq c hc l (m / 256) (Nat.succ i)]
      have := Lib.indexByte_ge (bytesL l (m / 256)) (UInt8.ofNat c)
      by_cases h1 : Lib.indexByte (bytesL l (m / 256)) (UInt8.ofNat c) = -1
      · simp [h1]
      · rw [if_neg h1]
        have h2 : (Lib.indexByte (bytesL l (m / 256)) (UInt8.ofNat c) == -1) = false := by simpa using h1
        rw [h2]
        simp only [Bool.false_eq_true, if_false]
        rw [if_neg (by omega)]
        omega

theorem bytesL_byte (l m : Nat) : (byteArr l m).data.toList = bytesL l m := rfl

theorem index_run {l m c : Nat} (hc : c ≤ 255) : (Extern.BytealgIndexByte.indexByte #[.string (byteArr l m), .int .u8 (Int.ofNat c)]).run P w = .ok (.int .i64 (indexB l m c 0)) w := by
  rw [Lib.run_indexByteString, bytesL_byte, indexB_eq c hc]
  have : (Int.ofNat c).toNat.toUInt8 = UInt8.ofNat c := rfl
  rw [this]
  congr 2
  split
  · assumption
  · simp

theorem count_run {l m c : Nat} (hc : c ≤ 255) : (Extern.BytealgCount.count #[.string (byteArr l m), .int .u8 (Int.ofNat c)]).run P w = .ok (.int .i64 (Int.ofNat (countB l m c 0))) w := by
  rw [Lib.run_countString, bytesL_byte, countB_eq c hc, Nat.zero_add]
  rfl

/-- Numbers are kept for blocks to come. -/
theorem Go'.bump {N : Nat → Prop} (hr : HRel P env okc ρ h w) {n : Nat} (hn : h.next ≤ n) : Go' P env okc N ρ h w ρ ⟨n, h.tr⟩ w := by
  refine ⟨.refl _, fun _ _ => rfl, ⟨hr.obj, hr.bound, hr.inj, fun b hb => hr.next b (Nat.le_trans hn hb), fun b hb => hr.clean b (Nat.le_trans hn hb)⟩, fun B hB hu => ⟨rfl, hu⟩, Nat.le_refl _, rfl, rfl, rfl, hn, fun _ _ h => h, fun _ _ h => h⟩

theorem noZero_sound (hr : HRel P env okc ρ h w) (hN : ∀ b, h.next ≤ b → N b) {fn : Func} {n : Nat} {e : TypeId} (he : noZeroElem P fn = some e) (hn : n ≤ 1048576) :
    Makes P env okc N ρ h w (Extern.BytealgMakeNoZero.makeNoZero fn.params fn.resultTypes #[.int .i64 (Int.ofNat n)]) (.slc h.next 0 n (.op 1 n)) ⟨h.next + 1, T.set (.row e n true false .leaf) h.tr h.next⟩ := by
  unfold noZeroElem at he
  split at he
  rotate_left
  · cases he
  rename_i t ht
  split at he
  rotate_left
  · cases he
  rename_i e' hu
  split at he
  rotate_left
  · cases he
  rename_i hsz
  cases he
  have hres : fn.resultTypes = #[t] := by apply Array.ext'; simpa using ht
  obtain ⟨cs, hrun, hcs, _⟩ := Lib.run_makeNoZero (P := P) w fn.params t e hu n (by omega)
  have hb := Go'.bump (N := N) hr (n := h.next + 1) (by omega)
  have hfree : ρ h.next = none := hr.next _ (Nat.le_refl _)
  have hd : HRel P env okc ρ ⟨h.next + 1, h.tr⟩ w.drew.drew := hb.rel.heap_eq rfl
  have hgo := Go'.alloc (N := N) (b := h.next) (o := .row e n true false .leaf) (ob := .cells cs e) (i := ⟨w.heap.size, 0, cs.size, 1⟩) hd hfree (by simp) (hN _ (Nat.le_refl _)) rfl
    ⟨cs, (0, 0), rfl, rfl, by simp only; omega, fun j v hv => (by cases hv), fun _ off _ hh => by simp at hh, fun _ => ⟨hsz, Nat.le_refl _⟩, by simp⟩
  refine ⟨_, ρ.set h.next ⟨w.heap.size, 0, cs.size, 1⟩, _, by rw [hres]; exact hrun, ?_, ((hb.trans (Go'.drew hb.rel)).trans (Go'.drew (hb.rel.heap_eq rfl))).trans hgo⟩
  have := VRel.slcO (env := env) (b := h.next) (o := 0) (len := n) (lo := n) (c := cs.size) (Rho.set_same ρ h.next ⟨w.heap.size, 0, cs.size, 1⟩) (Nat.le_refl _) hcs (by simp)
  exact this

theorem find_typed {fn : Func} {nm : String} {g : Array TypeId → Array TypeId → Array Value → Sem Value} (n1 : fn.name = nm) (h1 : Extern.allGenericRows.lookup nm = none) (h2 : Extern.allTypedRows.lookup nm = some g) : Extern.find fn = some (g fn.params fn.resultTypes) := by
  simp only [Extern.find, n1, h1, h2, Option.map_none]
  rfl
end
end Go.Eng
