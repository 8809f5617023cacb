/- What add of the document's reader does with any line that parse has read; the condition: texts have at most 2^22 bytes. -/
import Derived.Test.YtnlobmepajakcaaGreatDoorZRtI
import Derived.Test.YtnlobmepajakcaaGreatDoorZRtN
set_option linter.unusedVariables false
set_option linter.unusedSimpArgs false
namespace Go.Proofs.YtnlobmepajakcaaGreatDoor
open Go.RowKit Go.Shelf

theorem addR_any (n0 r q no : Nat) (R : RS) (t word : Bs) (A : Option Addr) (n c : Nat) (var : Int) (wL w w' : World) (hR : RdrR wL n0 r q R no) (hB1 : Below wL.heap.size wL w) (hB2 : Below w.heap.size w w') (hM : PMeans wL w (tokL t) word A n c var true) (ht : t.length ≤ 4194304) (hno : no ≤ 4194305) :
    Calls Tryz.prog 66 #[.pointer (some ⟨r, 0, none⟩), .agg #[.string ⟨word.toArray⟩, .slice A n c, .int .i64 var], .int .i64 (no : Int)] w' (AddPost n0 r q no R (tokL t) w') := by
  obtain ⟨b1, b2, b3⟩ := tokL_bounds t ht
  rcases hM with ⟨h, _⟩ | ⟨_, l, rfl, hO, h⟩
  · cases h
  · have hB := below_then hB1 hB1.size hB2
    have hO2 := hO.kept (grown_of_below hB2 none) (by cases (Value.slice A l.length c).ownBlock <;> simp)
    rcases h with ⟨v, hP, hk, rfl, hv0, hv⟩ | ⟨x, hP, rfl, rfl, rfl⟩ | ⟨hP, hw, rfl⟩
    · obtain ⟨k1, k2⟩ := b1 _ _ _ hP
      rw [hP]
      exact addGate_any n0 r q no v word R l A c wL w' hR hB hO2 k1 k2 hno hv0 hv hk
    · have k1 := b2 _ hP
      rw [hP]
      exact addOut_any n0 r q no R x A c wL.heap.size w' (hR.below hB) hO2 hR.size k1 hno
    · obtain ⟨k1, k2⟩ := b3 _ _ hP
      rw [hP]
      rcases hw with rfl | rfl | rfl
      · exact addBlock1_any n0 r q no R l A c wL w' hR hB hO2 k1 k2 hno
      · exact addBlock2_any n0 r q no R l A c wL w' hR hB hO2 k1 k2 hno
      · exact addBlock3_any n0 r q no R l A c wL w' hR hB hO2 k1 k2 hno
theorem RdrR.more {w : World} {n0 r q : Nat} {R : RS} {no : Nat} (h : RdrR w n0 r q R no) : RdrR w n0 r q R (no + 1) :=
  ⟨h.rn, h.qn, h.size, ⟨h.ok.vars, h.ok.nv, h.ok.lits, h.ok.pre, Nat.le_succ_of_le h.ok.prel, Nat.le_succ_of_le h.ok.gl, h.ok.al, h.ok.gs, h.ok.out⟩, h.mem⟩
theorem Fr2.toBelow {n0 r q n : Nat} {a b : World} (h : Fr2 n0 r q a b) (hn : n ≤ n0) (hr : n ≤ r) (hq : n ≤ q) : Below n a b :=
  ⟨h.os, h.tape, h.output, h.size, fun i hi => h.block i (by omega) (by omega) (by omega)⟩
end Go.Proofs.YtnlobmepajakcaaGreatDoor
