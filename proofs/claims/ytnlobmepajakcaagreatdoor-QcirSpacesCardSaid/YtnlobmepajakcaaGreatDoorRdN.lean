/- A new reader of qcir; no condition. -/
import Derived.Test.YtnlobmepajakcaaGreatDoorRdP
set_option linter.unusedVariables false
set_option linter.unusedSimpArgs false
namespace Go.Proofs.YtnlobmepajakcaaGreatDoor
open Go.RowKit Go.Shelf

def takeF : List Value → Nat → Option (List Value)
  | l, 0 => some l
  | [], _ + 1 => none
  | v :: l, n + 1 => if isF v = true then takeF l n else none
theorem takeF_eq : ∀ (n : Nat) (l t : List Value), takeF l n = some t → l = List.replicate n (Value.bool false) ++ t
  | 0, l, t, h => by
    cases l <;> (unfold takeF at h; injection h)
  | n + 1, [], t, h => by cases h
  | n + 1, v :: l, t, h => by
    unfold takeF at h
    split at h
    · rename_i hv
      rw [List.replicate_succ, List.cons_append, ← takeF_eq n l t h]
      unfold isF at hv
      split at hv
      · rfl
      · cases hv
    · cases h
theorem z80_head : Tryz.zeroCells80.toList.take 3 = [.slice none 0 0, .slice none 0 0, .int .i64 0] := by kernel_rfl
theorem z80_tail : takeF (Tryz.zeroCells80.toList.drop 3) 65537 = some [.int .i64 0, .int .i64 0, .bool false, .bool false, .slice none 0 0, .int .i64 0] := by kernel_rfl
theorem z80 : Tryz.zeroCells80.toList = [.slice none 0 0, .slice none 0 0, .int .i64 0] ++ (List.replicate 65537 (Value.bool false) ++ [.int .i64 0, .int .i64 0, .bool false, .bool false, .slice none 0 0, .int .i64 0]) := by
  rw [← takeF_eq _ _ _ z80_tail, ← z80_head, List.take_append_drop]
theorem get_tail (A T : List Value) (n i : Nat) (v : Value) : (A ++ (List.replicate n v ++ T))[A.length + n + i]? = T[i]? := by
  rw [List.getElem?_append_right (by omega), List.getElem?_append_right (by simp only [List.length_replicate]; omega)]
  congr 1
  simp only [List.length_replicate]
  omega
theorem get_mid (A T : List Value) (n i : Nat) (v : Value) (h : i < n) : (A ++ (List.replicate n v ++ T))[A.length + i]? = some v := by
  rw [List.getElem?_append_right (by omega), List.getElem?_append_left (by simp only [List.length_replicate]; omega), show A.length + i - A.length = i by omega, List.getElem?_replicate, if_pos h]
theorem len_all (A T : List Value) (n : Nat) (v : Value) : (A ++ (List.replicate n v ++ T)).length = A.length + n + T.length := by
  simp only [List.length_append, List.length_replicate]; omega
theorem new80 (w : World) : RdAt (w.alloc (.cells Tryz.zeroCells80 80)) w.heap.size (.slice none 0 0) (.slice none 0 0) (.slice none 0 0) rs0 := by
  have g : ∀ i, Tryz.zeroCells80[i]? = Tryz.zeroCells80.toList[i]? := fun i => Array.getElem?_toList.symm
  refine ⟨_, heap_alloc_new w _, ?_⟩
  have t1 : ∀ i, Tryz.zeroCells80.toList[3 + 65537 + i]? = ([.int .i64 0, .int .i64 0, .bool false, .bool false, .slice none 0 0, .int .i64 0] : List Value)[i]? := fun i => by
    rw [z80]
    exact get_tail _ _ 65537 i _
  refine ⟨?_, ?_, ?_, ?_, ?_, ?_, ?_, ?_, ?_, ?_, ?_⟩
  · have h := congrArg List.length z80
    rw [len_all] at h
    exact h
  · rw [g, z80]; rfl
  · rw [g, z80]; rfl
  · rw [g, z80]; rfl
  · intro i hi
    rw [g, z80]
    exact get_mid _ _ 65537 i _ hi
  · rw [g]; exact t1 0
  · rw [g]; exact t1 1
  · rw [g]; exact t1 2
  · rw [g]; exact t1 3
  · rw [g]; exact t1 4
  · rw [g]; exact t1 5
theorem step_build80 {ops : Array Oper} {rest : List Oper} {Q : Exit → Act → World → Prop} {a : Act} {w : World} {d : Nat} {ty : TypeId} {pos : String} {after : Array Edge}
    (h : wpList Tryz.prog ops Q rest (a.put (some d) (.agg Tryz.zeroCells80)) w) : wpList Tryz.prog ops Q ({ dst := some d, op := .build 80 #[], type := ty, pos, after, guard := none } :: rest) a w := by
  refine wpList_plain rfl fun K hK => ?_
  unfold Oper.wp
  have e : (execOp a.eval { dst := some d, op := .build 80 #[], type := ty, pos, after, guard := none }).run Tryz.prog w = .ok (.value (.agg Tryz.zeroCells80)) w := by
    unfold execOp
    simp only [go_sem, Array.map_empty]
    simp only [Sem.run_bind, Tryz.zeroValue80, Result.andThen_ok, run_underlying Tryz.underlying80, Sem.run_pure]
    simp [Tryz.sizeOf40, Tryz.sizeOf78, Tryz.sizeOf3, Tryz.sizeOf4, Tryz.sizeOf48]
  rw [e, Oper.upon_value]
  exact hK _ _ h
theorem step_box80 {ops : Array Oper} {rest : List Oper} {Q : Exit → Act → World → Prop} {a : Act} {w : World} {d i : Nat} {ty : TypeId} {pos : String} {after : Array Edge}
    (hi : a.tmps.getD i undef = .agg Tryz.zeroCells80)
    (h : wpList Tryz.prog ops Q rest (a.put (some d) (.pointer (some ⟨w.heap.size, 0, none⟩))) (w.alloc (.cells Tryz.zeroCells80 80))) : wpList Tryz.prog ops Q ({ dst := some d, op := .box 80 (.tmp i), type := ty, pos, after, guard := none } :: rest) a w := by
  refine wpList_plain rfl fun K hK => ?_
  unfold Oper.wp
  have e : (execOp a.eval { dst := some d, op := .box 80 (.tmp i), type := ty, pos, after, guard := none }).run Tryz.prog w = .ok (.value (.pointer (some ⟨w.heap.size, 0, none⟩))) (w.alloc (.cells Tryz.zeroCells80 80)) := by
    unfold execOp Act.eval
    simp only [hi, Instr.box, newVar, newRow, Value.cells]
    simp only [Sem.run_bind, run_newObj_alloc, Result.andThen_ok, Sem.run_pure]
  rw [e, Oper.upon_value]
  exact hK _ _ h
theorem step_new80 {ops : Array Oper} {rest : List Oper} {Q : Exit → Act → World → Prop} {a : Act} {w : World} {d d2 : Nat} {ty ty2 : TypeId} {pos pos2 : String} {after after2 : Array Edge}
    (hd : d < a.tmps.size)
    (h : ∀ u, wpList Tryz.prog ops Q rest ((a.put (some d) u).put (some d2) (.pointer (some ⟨w.heap.size, 0, none⟩))) (w.alloc (.cells Tryz.zeroCells80 80))) :
    wpList Tryz.prog ops Q ({ dst := some d, op := .build 80 #[], type := ty, pos, after, guard := none } :: { dst := some d2, op := .box 80 (.tmp d), type := ty2, pos := pos2, after := after2, guard := none } :: rest) a w := by
  refine step_build80 (step_box80 ?_ (h _))
  unfold Act.put
  simp only
  rw [Array.getD_eq_getD_getElem?, Array.getElem?_setIfInBounds_self_of_lt hd]
  rfl
end Go.Proofs.YtnlobmepajakcaaGreatDoor
