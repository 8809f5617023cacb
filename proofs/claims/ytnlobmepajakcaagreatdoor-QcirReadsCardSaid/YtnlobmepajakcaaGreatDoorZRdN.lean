/- What Read of qcir goes through, over the numbered lines; no condition / A new reader of qcir; no condition. -/
import Derived.Test.YtnlobmepajakcaaGreatDoorZRdI
import Derived.Test.YtnlobmepajakcaaGreatDoorZRdO
set_option linter.unusedVariables false
set_option linter.unusedSimpArgs false
namespace Go.Proofs.YtnlobmepajakcaaGreatDoor
open Go.RowKit Go.Shelf

/-- linesP over lines that are not blank, with their numbers. -/
def linesN (L : Bs → PLine) (r : RS) : List (Nat × Bs) → (Int × Nat) × RS
  | [] => ((0, 0), r)
  | x :: xs => if (addL r x.1 (L x.2)).1 = 0 then linesN L (addL r x.1 (L x.2)).2 xs else (((addL r x.1 (L x.2)).1, x.1), r)
theorem linesN_cons (L : Bs → PLine) (r : RS) (x : Nat × Bs) (xs : List (Nat × Bs)) : linesN L r (x :: xs) = if (addL r x.1 (L x.2)).1 = 0 then linesN L (addL r x.1 (L x.2)).2 xs else (((addL r x.1 (L x.2)).1, x.1), r) := rfl
theorem linesP_cons (L : Bs → PLine) (r : RS) (no : Nat) (t : Bs) (ts : List Bs) : linesP L r no (t :: ts) = if blankB t = true then linesP L r (no + 1) ts else if (addL r no (L t)).1 = 0 then linesP L (addL r no (L t)).2 (no + 1) ts else (((addL r no (L t)).1, no), r) := rfl
theorem numbered_cons (no : Nat) (t : Bs) (ts : List Bs) : numbered no (t :: ts) = if blankB t = true then numbered (no + 1) ts else (no, t) :: numbered (no + 1) ts := rfl
theorem linesP_N (L : Bs → PLine) : ∀ (ts : List Bs) (r : RS) (no : Nat), linesP L r no ts = linesN L r (numbered no ts)
  | [], r, no => rfl
  | t :: ts, r, no => by
    rw [linesP_cons, numbered_cons]
    by_cases hb : blankB t = true
    · rw [if_pos hb, if_pos hb]
      exact linesP_N L ts r (no + 1)
    · rw [if_neg hb, if_neg hb, linesN_cons]
      by_cases h0 : (addL r no (L t)).1 = 0
      · rw [if_pos h0, if_pos h0]
        exact linesP_N L ts _ (no + 1)
      · rw [if_neg h0, if_neg h0]
theorem linesN_app (L : Bs → PLine) : ∀ (pre : List (Nat × Bs)) (r R : RS), linesN L r pre = ((0, 0), R) → ∀ rest, linesN L r (pre ++ rest) = linesN L R rest
  | [], r, R, h, rest => by
    have h' : ((0, 0), r) = (((0 : Int), 0), R) := h
    injection h' with _ h'
    subst h'
    rfl
  | x :: xs, r, R, h, rest => by
    rw [linesN_cons] at h
    rw [List.cons_append, linesN_cons]
    by_cases h0 : (addL r x.1 (L x.2)).1 = 0
    · rw [if_pos h0] at h ⊢
      exact linesN_app L xs _ R h rest
    · rw [if_neg h0] at h
      injection h with h _
      injection h with h _
      exact absurd h h0
theorem numbered_mem : ∀ (ts : List Bs) (no : Nat) (x : Nat × Bs), x ∈ numbered no ts → no ≤ x.1 ∧ x.1 < no + ts.length ∧ x.2 ∈ ts ∧ blankB x.2 = false
  | [], no, x, h => by cases h
  | t :: ts, no, x, h => by
    unfold numbered at h
    by_cases hb : blankB t = true
    · rw [if_pos hb] at h
      obtain ⟨h1, h2, h3, h4⟩ := numbered_mem ts (no + 1) x h
      exact ⟨by omega, by simp only [List.length_cons]; omega, List.mem_cons_of_mem _ h3, h4⟩
    · rw [if_neg hb] at h
      rcases List.mem_cons.1 h with rfl | h
      · exact ⟨Nat.le_refl _, by simp, by simp, by simpa using hb⟩
      · obtain ⟨h1, h2, h3, h4⟩ := numbered_mem ts (no + 1) x h
        exact ⟨by omega, by simp only [List.length_cons]; omega, List.mem_cons_of_mem _ h3, h4⟩
theorem numbered_after : ∀ (ts : List Bs) (no : Nat) (pre : List (Nat × Bs)) (x : Nat × Bs) (rest : List (Nat × Bs)), numbered no ts = pre ++ x :: rest → ∀ y ∈ rest, x.1 + 1 ≤ y.1
  | [], no, pre, x, rest, h => by simp [numbered] at h
  | t :: ts, no, pre, x, rest, h => by
    unfold numbered at h
    by_cases hb : blankB t = true
    · rw [if_pos hb] at h
      exact numbered_after ts (no + 1) pre x rest h
    · rw [if_neg hb] at h
      cases pre with
      | nil =>
        simp only [List.nil_append, List.cons.injEq] at h
        obtain ⟨rfl, rfl⟩ := h
        intro y hy
        have := (numbered_mem ts (no + 1) y hy).1
        simp only []; omega
      | cons p ps =>
        simp only [List.cons_append, List.cons.injEq] at h
        exact numbered_after ts (no + 1) ps x rest h.2
theorem split_len : ∀ s : Bs, (splitNL s).length ≤ s.length ∧ ∀ t ∈ splitNL s, t.length ≤ s.length
  | [] => by simp [splitNL]
  | c :: r => by
    obtain ⟨h1, h2⟩ := split_len r
    have e : splitNL (c :: r) = if c = 10 then [] :: splitNL r else consHead c (splitNL r) := rfl
    rw [e]
    split
    · refine ⟨by simp only [List.length_cons]; omega, fun t ht => ?_⟩
      rcases List.mem_cons.1 ht with rfl | ht
      · simp
      · have := h2 t ht; simp only [List.length_cons]; omega
    · cases hs : splitNL r with
      | nil =>
        refine ⟨by simp [consHead], fun t ht => ?_⟩
        simp only [consHead, List.mem_singleton] at ht
        subst ht; simp
      | cons a ls =>
        rw [hs] at h1 h2
        refine ⟨by simp only [consHead, List.length_cons] at h1 ⊢; omega, fun t ht => ?_⟩
        simp only [consHead] at ht
        rcases List.mem_cons.1 ht with rfl | ht
        · have := h2 a (by simp); simp only [List.length_cons]; omega
        · have := h2 t (by simp [ht]); simp only [List.length_cons]; omega
set_option maxRecDepth 100000 in
/-- Read's closure over the literals of a gate. -/
theorem strange44 (q r : Nat) (pv gv av : Value) (R : RS) (x : Int) (w : World) (hq : w.cell? ⟨q, 0, none⟩ = some (.pointer (some ⟨r, 0, none⟩))) (h : RdAt w r pv gv av R) (h1 : -65536 ≤ x) (h2 : x ≤ 65536) :
    Calls Tryz.prog 44 #[.int .i64 x, .pointer (some ⟨q, 0, none⟩)] w fun e w' => e = .returned (.bool (!R.seen (absN x))) ∧ w' = w := by
  have CK := known42_any r pv gv av R x w h h1 h2
  clear h1 h2
  go_enter Tryz.func44, Tryz.ntmps44
  go_wp2_with (first | (go_at_call 42; refine CK.mono ?_; rintro e w' ⟨rfl, hw⟩; obtain rfl : w = w' := hw.symm) | fail)
  go_ret
  exact ⟨rfl, rfl⟩
end Go.Proofs.YtnlobmepajakcaaGreatDoor
namespace Go.Proofs.YtnlobmepajakcaaGreatDoor
open Go.RowKit Go.Shelf

def takeF : List Value → Nat → Option (List Value)
  | l, 0 => some l
  | [], _ + 1 => none
  | v :: l, n + 1 => if isF v = true then takeF l n else none
theorem takeF_eq : ∀ (n : Nat) (l t : List Value), takeF l n = some t → l = List.replicate n (Value.bool false) ++ t
  | 0, l, t, h => by
    cases l <;> (unfold takeF at h; injection h)
  | n + 1, [], t, h => by cases h
  | n + 1, v :: l, t, h => by
    unfold takeF at h
    split at h
    · rename_i hv
      rw [List.replicate_succ, List.cons_append, ← takeF_eq n l t h]
      unfold isF at hv
      split at hv
      · rfl
      · cases hv
    · cases h
theorem z80_head : Tryz.zeroCells80.toList.take 3 = [.slice none 0 0, .slice none 0 0, .int .i64 0] := by kernel_rfl
theorem z80_tail : takeF (Tryz.zeroCells80.toList.drop 3) 65537 = some [.int .i64 0, .int .i64 0, .bool false, .bool false, .slice none 0 0, .int .i64 0] := by kernel_rfl
theorem z80 : Tryz.zeroCells80.toList = [.slice none 0 0, .slice none 0 0, .int .i64 0] ++ (List.replicate 65537 (Value.bool false) ++ [.int .i64 0, .int .i64 0, .bool false, .bool false, .slice none 0 0, .int .i64 0]) := by
  rw [← takeF_eq _ _ _ z80_tail, ← z80_head, List.take_append_drop]
theorem get_tail (A T : List Value) (n i : Nat) (v : Value) : (A ++ (List.replicate n v ++ T))[A.length + n + i]? = T[i]? := by
  rw [List.getElem?_append_right (by omega), List.getElem?_append_right (by simp only [List.length_replicate]; omega)]
  congr 1
  simp only [List.length_replicate]
  omega
theorem get_mid (A T : List Value) (n i : Nat) (v : Value) (h : i < n) : (A ++ (List.replicate n v ++ T))[A.length + i]? = some v := by
  rw [List.getElem?_append_right (by omega), List.getElem?_append_left (by simp only [List.length_replicate]; omega), show A.length + i - A.length = i by omega, List.getElem?_replicate, if_pos h]
theorem len_all (A T : List Value) (n : Nat) (v : Value) : (A ++ (List.replicate n v ++ T)).length = A.length + n + T.length := by
  simp only [List.length_append, List.length_replicate]; omega
theorem new80 (w : World) : RdAt (w.alloc (.cells Tryz.zeroCells80 80)) w.heap.size (.slice none 0 0) (.slice none 0 0) (.slice none 0 0) rs0 := by
  have g : ∀ i, Tryz.zeroCells80[i]? = Tryz.zeroCells80.toList[i]? := fun i => Array.getElem?_toList.symm
  refine ⟨_, heap_alloc_new w _, ?_⟩
  have t1 : ∀ i, Tryz.zeroCells80.toList[3 + 65537 + i]? = ([.int .i64 0, .int .i64 0, .bool false, .bool false, .slice none 0 0, .int .i64 0] : List Value)[i]? := fun i => by
    rw [z80]
    exact get_tail _ _ 65537 i _
  refine ⟨?_, ?_, ?_, ?_, ?_, ?_, ?_, ?_, ?_, ?_, ?_⟩
  · have h := congrArg List.length z80
    rw [len_all] at h
    exact h
  · rw [g, z80]; rfl
  · rw [g, z80]; rfl
  · rw [g, z80]; rfl
  · intro i hi
    rw [g, z80]
    exact get_mid _ _ 65537 i _ hi
  · rw [g]; exact t1 0
  · rw [g]; exact t1 1
  · rw [g]; exact t1 2
  · rw [g]; exact t1 3
  · rw [g]; exact t1 4
  · rw [g]; exact t1 5
theorem step_build80 {ops : Array Oper} {rest : List Oper} {Q : Exit → Act → World → Prop} {a : Act} {w : World} {d : Nat} {ty : TypeId} {pos : String} {after : Array Edge}
    (h : wpList Tryz.prog ops Q rest (a.put (some d) (.agg Tryz.zeroCells80)) w) : wpList Tryz.prog ops Q ({ dst := some d, op := .build 80 #[], type := ty, pos, after, guard := none } :: rest) a w := by
  refine wpList_plain rfl fun K hK => ?_
  unfold Oper.wp
  have e : (execOp a.eval { dst := some d, op := .build 80 #[], type := ty, pos, after, guard := none }).run Tryz.prog w = .ok (.value (.agg Tryz.zeroCells80)) w := by
    unfold execOp
    simp only [go_sem, Array.map_empty]
    simp only [Sem.run_bind, Tryz.zeroValue80, Result.andThen_ok, run_underlying Tryz.underlying80, Sem.run_pure]
    simp [Tryz.sizeOf40, Tryz.sizeOf78, Tryz.sizeOf3, Tryz.sizeOf4, Tryz.sizeOf48]
  rw [e, Oper.upon_value]
  exact hK _ _ h
theorem step_box80 {ops : Array Oper} {rest : List Oper} {Q : Exit → Act → World → Prop} {a : Act} {w : World} {d i : Nat} {ty : TypeId} {pos : String} {after : Array Edge}
    (hi : a.tmps.getD i undef = .agg Tryz.zeroCells80)
    (h : wpList Tryz.prog ops Q rest (a.put (some d) (.pointer (some ⟨w.heap.size, 0, none⟩))) (w.alloc (.cells Tryz.zeroCells80 80))) : wpList Tryz.prog ops Q ({ dst := some d, op := .box 80 (.tmp i), type := ty, pos, after, guard := none } :: rest) a w := by
  refine wpList_plain rfl fun K hK => ?_
  unfold Oper.wp
  have e : (execOp a.eval { dst := some d, op := .box 80 (.tmp i), type := ty, pos, after, guard := none }).run Tryz.prog w = .ok (.value (.pointer (some ⟨w.heap.size, 0, none⟩))) (w.alloc (.cells Tryz.zeroCells80 80)) := by
    unfold execOp Act.eval
    simp only [hi, Instr.box, newVar, newRow, Value.cells]
    simp only [Sem.run_bind, run_newObj_alloc, Result.andThen_ok, Sem.run_pure]
  rw [e, Oper.upon_value]
  exact hK _ _ h
theorem step_new80 {ops : Array Oper} {rest : List Oper} {Q : Exit → Act → World → Prop} {a : Act} {w : World} {d d2 : Nat} {ty ty2 : TypeId} {pos pos2 : String} {after after2 : Array Edge}
    (hd : d < a.tmps.size)
    (h : ∀ u, wpList Tryz.prog ops Q rest ((a.put (some d) u).put (some d2) (.pointer (some ⟨w.heap.size, 0, none⟩))) (w.alloc (.cells Tryz.zeroCells80 80))) :
    wpList Tryz.prog ops Q ({ dst := some d, op := .build 80 #[], type := ty, pos, after, guard := none } :: { dst := some d2, op := .box 80 (.tmp d), type := ty2, pos := pos2, after := after2, guard := none } :: rest) a w := by
  refine step_build80 (step_box80 ?_ (h _))
  unfold Act.put
  simp only
  rw [Array.getD_eq_getD_getElem?, Array.getElem?_setIfInBounds_self_of_lt hd]
  rfl
end Go.Proofs.YtnlobmepajakcaaGreatDoor
