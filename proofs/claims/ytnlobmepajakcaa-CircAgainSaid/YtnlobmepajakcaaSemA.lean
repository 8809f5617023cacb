/- What the law CircAgain needs of plain nets: Simple makes no more gates and literals, twice Simple is once, swaps only change the order; no condition. -/
import Derived.Test.YtnlobmepajakcaaSemM
import Derived.Test.YtnlobmepajakcaaSemS
import Derived.Test.YtnlobmepajakcaaSemO
set_option linter.unusedVariables false
set_option linter.unusedSimpArgs false
namespace Go.Proofs.Ytnlobmepajakcaa
open Go.RowKit Go.Shelf

theorem steps_len (T : Int) : ∀ (gs : List PGate) (st : (Nat → Int) × List PGate), (gs.foldl (gateStep T) st).2.length ≤ st.2.length + gs.length
  | [], st => Nat.le_refl _
  | g :: gs, st => by
    rw [List.foldl_cons]
    have h := steps_len T gs (gateStep T st g)
    have h2 : (gateStep T st g).2.length ≤ st.2.length + 1 := by
      unfold gateStep
      simp only
      split
      · simp
      · simp
    rw [List.length_cons]
    omega
theorem reachG_len : ∀ (gs : List PGate) (S : Nat → Bool), (reachG S gs).length ≤ gs.length
  | [], S => Nat.le_refl _
  | g :: gs, S => by
    unfold reachG
    split
    · have := reachG_len gs (markS S g.ins); simp only [List.length_cons]; omega
    · have := reachG_len gs S; simp only [List.length_cons]; omega
theorem simple_len (N : PNet) (a : List Int) : (simpleP 65537 N a).gates.length ≤ 1 ∨ (simpleP 65537 N a).gates.length ≤ N.gates.length := by
  unfold simpleP endP
  split
  · exact .inl (Nat.le_refl _)
  · right
    show (reachG _ _).reverse.length ≤ _
    have h1 := reachG_len (simpleM 65537 N a).2.reverse (upd noS (absN (meanL (simpleM 65537 N a).1 N.out)) true)
    have h2 : (simpleM 65537 N a).2.length ≤ 0 + N.gates.length := steps_len 65537 N.gates _
    rw [List.length_reverse] at h1 ⊢
    omega
theorem simple_lits {N : PNet} (hM : mayP N = true) : litSum (simpleP 65537 N []).gates ≤ litSum N.gates := by
  have ok := simpleM_ok hM [] noS (fun i => mv noS (fixM 65537 (varM noM (varsOf N.pre)) [] i)) (fun i _ => rfl)
  obtain ⟨k1, k2, k3, k4⟩ := ok
  unfold simpleP
  generalize meanL (simpleM 65537 N []).1 N.out = o at k1 k3 ⊢
  unfold endP
  split
  · simp [litSum]
  · obtain ⟨Ss, hSs⟩ : ∃ Ss, mayGates (preS ⟨withoutP (markS noS []) N.pre, [], 0⟩) (simpleM 65537 N []).2 = some Ss := by
      cases hq : mayGates (preS ⟨withoutP (markS noS []) N.pre, [], 0⟩) (simpleM 65537 N []).2 with
      | some S => exact ⟨S, rfl⟩
      | none => rw [hq] at k2; cases k2
    obtain ⟨S2, q1, q2, q3, q4⟩ := reach_may (preS ⟨withoutP (markS noS []) N.pre, [], 0⟩) (simpleM 65537 N []).2.reverse (upd noS (absN o) true) Ss (by rw [List.reverse_reverse]; exact hSs)
    rw [List.reverse_reverse] at q4
    show litSum (reachG _ _).reverse ≤ _
    omega
/-- What the law CircAgain needs of Simple, all at once. -/
theorem again_all {N : PNet} (hM : mayP N = true) : ∃ S, cofactorP N [] = (S, 0) ∧ mayP S = true ∧ cofactorP S [] = (S, 0) ∧ litSum S.gates ≤ litSum N.gates ∧ (S.gates.length ≤ 1 ∨ S.gates.length ≤ N.gates.length) := by
  obtain ⟨h1, h2, -, -⟩ := means_simple hM (among_nil (preS N))
  obtain ⟨h3, -, -, -⟩ := means_simple h2 (among_nil (preS (simpleP 65537 N [])))
  rw [simple_again hM] at h3
  exact ⟨_, h1, h2, h3, simple_lits hM, simple_len N []⟩
def swapL {α : Type} (l : List α) (i k : Nat) : List α := match l[i]?, l[k]? with
  | some x, some y => (l.set i y).set k x
  | _, _ => l
theorem swapL_perm {α : Type} (l : List α) (i k : Nat) : (swapL l i k).Perm l := by
  unfold swapL
  cases hi : l[i]? with
  | none => exact List.Perm.refl _
  | some x =>
    cases hk : l[k]? with
    | none => exact List.Perm.refl _
    | some y =>
      obtain ⟨h1, rfl⟩ := List.getElem?_eq_some_iff.1 hi
      obtain ⟨h2, rfl⟩ := List.getElem?_eq_some_iff.1 hk
      exact List.set_set_perm h1 h2
end Go.Proofs.Ytnlobmepajakcaa
