/- What circ.exclusive, circ.gather and circ.simplified do; the condition: the literals' meanings lie within 65,537, and there are at most 2^40 of them. -/
import Derived.Test.YtnlobmepajakcaaOwn
set_option linter.unusedVariables false
set_option linter.unusedSimpArgs false
namespace Go.Proofs.Ytnlobmepajakcaa
open Go.RowKit Go.Shelf

/-- A conjunction (skip: what is always true) or a disjunction, what has been met being out. -/
def gatherGo (skip : Int) (out : List Int) : List Int → Option (List Int)
  | [] => some out
  | l :: ls => if l = -skip ∨ -l ∈ out then none else if l ≠ skip ∧ l ∉ out then gatherGo skip (out ++ [l]) ls else gatherGo skip out ls
def gatherEnd (skip : Int) (out : List Int) : Int × List Int := match out with
  | [] => (skip, [])
  | [x] => (x, [])
  | _ => (0, out)
def gatherP (skip : Int) (ls : List Int) : Int × List Int := match gatherGo skip [] ls with
  | none => (-skip, [])
  | some out => gatherEnd skip out
theorem gatherGo_sub {skip : Int} : ∀ (ls out r : List Int), gatherGo skip out ls = some r → ∀ x ∈ r, x ∈ out ∨ x ∈ ls
  | [], out, r, h, x, hx => by
    have : out = r := by simpa [gatherGo] using h
    exact .inl (this ▸ hx)
  | l :: ls, out, r, h, x, hx => by
    unfold gatherGo at h
    by_cases h1 : l = -skip ∨ -l ∈ out
    · rw [if_pos h1] at h; cases h
    · rw [if_neg h1] at h
      by_cases h2 : l ≠ skip ∧ l ∉ out
      · rw [if_pos h2] at h
        rcases gatherGo_sub ls _ r h x hx with h3 | h3
        · rw [List.mem_append, List.mem_singleton] at h3
          rcases h3 with h3 | h3
          · exact .inl h3
          · exact .inr (by rw [h3]; exact .head _)
        · exact .inr (.tail _ h3)
      · rw [if_neg h2] at h
        rcases gatherGo_sub ls _ r h x hx with h3 | h3
        · exact .inl h3
        · exact .inr (.tail _ h3)

/-- What gather hands back: a meaning, and the literals that stay, in memory of its own. -/
def GatherPost (w : World) (r : Int × List Int) (e : Ending) (w' : World) : Prop :=
  Below w.heap.size w w' ∧ ∃ v, e = .returned (.tuple #[.int .i64 r.1, v]) ∧ IntsAt w' v r.2 ∧ ∀ b, v.ownBlock = some b → w.heap.size ≤ b

def memF (out : List Int) : Int → Option Value := fun k => if k ∈ out then some (.bool true) else none

set_option maxHeartbeats 4000000 in
theorem gather_any (v : Value) (ls : List Int) (skip : Int) (w : World) (h : IntsAt w v ls) (hsk : skip = 65537 ∨ skip = -65537) (hls : ∀ x ∈ ls, -65537 ≤ x ∧ x ≤ 65537) (hn : ls.length ≤ 1099511627776) :
    Calls Try.prog 100 #[v, .int .i64 skip] w (GatherPost w (gatherP skip ls)) := by
  obtain ⟨A, c, rfl, hlc, hcm⟩ := SlAt.form h
  have hlen : ls.length ≤ 9223372036854775807 := by omega
  have hs1 : -65537 ≤ skip := by omega
  have hs2 : skip ≤ 65537 := by omega
  have HS := hid hsk
  clear hsk
  obtain ⟨W1, hW1⟩ : ∃ W1, w.alloc (.map #[] 0) = W1 := ⟨_, rfl⟩
  have hM1 : IntMap W1 w.heap.size (memF []) := by rw [← hW1]; exact IntMap.new w
  have hB1 : Below w.heap.size w W1 := by rw [← hW1]; exact (Below.refl _ w).alloc (Nat.le_refl _) _
  have hmm := @run_makeMap Try.prog
  go_enter Try.func100, Try.ntmps100
  go_wp2
  go_loopg [7, 9, 13] ls.length (fun gg s7 _ s13 wr => ∃ (k : Nat) (out : List Int) (Ao : Option Addr) (co : Nat), k ≤ ls.length ∧ ls.length - k ≤ gg ∧ s13 = .int .i64 k ∧ s7 = .slice Ao out.length co ∧ Below w.heap.size w wr ∧
    wr.ownsRow (w.heap.size + 1) 3 1 (.slice Ao out.length co) out.length (nums out) ∧ IntMap wr w.heap.size (memF out) ∧ out.length ≤ k ∧ Aside (∀ x ∈ out, -65537 ≤ x ∧ x ≤ 65537) ∧ w.heap.size + 1 ≤ wr.heap.size ∧
    Rem (gatherGo skip [] ls) (gatherGo skip out (ls.drop k)))
  case atStart =>
    refine ⟨0, [], none, 0, Nat.zero_le _, by omega, rfl, rfl, hB1, World.ownsRow_nil _ _ _ _, hM1, Nat.le_refl _, (fun x hx => by cases hx), ?_, ⟨rfl⟩⟩
    have := hM1.lt; omega
  case round =>
    obtain ⟨k, out, Ao, co, hk, hg, rfl, rfl, hB, hO, hM, hok, hob, hsz, HA⟩ := hrel
    clear hmm hW1 hM1 hB1
    by_cases hlt : k < ls.length
    · obtain ⟨x, hx, hmem, hd⟩ := nth hlt
      obtain ⟨b, off, rfl, hc0, -⟩ := (h.keep (keeps_below hB)).at_ k x hx
      obtain ⟨hx1, hx2⟩ := hls x hmem
      have hltz : (k : Int) < (ls.length : Int) := by omega
      have HD := hid hd
      have HL := hid hls
      have hl1 := run_lookup (w := wr) Try.underlying140 Try.underlying3 Try.zeroValue4 hM (-x)
      have hl2 := run_lookup (w := wr) Try.underlying140 Try.underlying3 Try.zeroValue4 hM x
      have e1 : ∀ y, (memF out y).getD (Value.bool false) = .bool (decide (y ∈ out)) := fun y => by unfold memF; by_cases h : y ∈ out <;> simp [h]
      rw [e1] at hl1 hl2
      clear hd hx e1 hls
      have fin : gatherGo skip [] ls = none → GatherPost w (gatherP skip ls) (.returned (.tuple #[.int .i64 (-skip), .slice none 0 0])) wr := fun e => by
        refine ⟨hB, .slice none 0 0, by unfold gatherP; rw [e], ?_, fun b hb => by cases hb⟩
        unfold gatherP
        rw [e]
        exact ⟨none, 0, rfl, Nat.le_refl _, by omega, fun h => by simp at h⟩
      have HF := hid fin
      clear fin
      by_cases hq1 : x = -skip
      · have hb1 : (x == -skip) = true := by rw [beq_iff_eq]; exact hq1
        have hR : gatherGo skip [] ls = none := by rw [HA.out, HD.out, gatherGo, if_pos (.inl hq1)]
        have HR := hid hR
        clear hR hq1
        go_wp2_with fail
        go_ret2
        exact HF.out HR.out
      · have hb1 : (x == -skip) = false := by rw [beq_eq_false_iff_ne]; exact hq1
        by_cases hq2 : -x ∈ out
        · have hR : gatherGo skip [] ls = none := by rw [HA.out, HD.out, gatherGo, if_pos (.inr hq2)]
          rw [decide_eq_true hq2] at hl1
          have HR := hid hR
          clear hR hq1 hq2
          go_wp2_with fail
          go_ret2
          exact HF.out HR.out
        · rw [decide_eq_false hq2] at hl1
          by_cases hq3 : x = skip
          · have hb2 : (x != skip) = false := by simp [hq3]
            have hR : gatherGo skip [] ls = gatherGo skip out (ls.drop (k + 1)) := by
              rw [HA.out, HD.out, gatherGo, if_neg (fun h => h.elim hq1 hq2), if_neg (fun h => h.1 hq3)]
            have HR := hid hR
            clear hR hq1 hq2 hq3 hl2
            go_wp2_with fail
            go_roundg (ls.length - (k + 1))
            case measure => omega
            case rel => exact ⟨k + 1, out, Ao, co, by omega, by omega, by go_num, rfl, hB, hO, hM, by omega, hob, hsz, ⟨HR.out⟩⟩
          · have hb2 : (x != skip) = true := by simp [hq3]
            by_cases hq4 : x ∈ out
            · rw [decide_eq_true hq4] at hl2
              have hR : gatherGo skip [] ls = gatherGo skip out (ls.drop (k + 1)) := by
                rw [HA.out, HD.out, gatherGo, if_neg (fun h => h.elim hq1 hq2), if_neg (fun h => h.2 hq4)]
              have HR := hid hR
              clear hR hq1 hq2 hq3 hq4
              go_wp2_with fail
              go_roundg (ls.length - (k + 1))
              case measure => omega
              case rel => exact ⟨k + 1, out, Ao, co, by omega, by omega, by go_num, rfl, hB, hO, hM, by omega, hob, hsz, ⟨HR.out⟩⟩
            · rw [decide_eq_false hq4] at hl2
              have hR : gatherGo skip [] ls = gatherGo skip (out ++ [x]) (ls.drop (k + 1)) := by
                rw [HA.out, HD.out, gatherGo, if_neg (fun h => h.elim hq1 hq2), if_pos ⟨hq3, hq4⟩]
              have HR := hid hR
              obtain ⟨w2, hup, hM2, hG2⟩ := run_update (w := wr) Try.underlying140 Try.underlying3 hM x (.bool true)
              have hM2' : IntMap w2 w.heap.size (memF (out ++ [x])) := by
                have e : (fun k' => if k' = x then some (Value.bool true) else memF out k') = memF (out ++ [x]) := by
                  funext k'
                  unfold memF
                  by_cases h : k' = x
                  · simp [h]
                  · simp [h]
                rw [← e]; exact hM2
              have hO2 : w2.ownsRow (w.heap.size + 1) 3 1 (.slice Ao out.length co) out.length (nums out) := hO.kept hG2 (by
                cases hv : (Value.slice Ao out.length co).ownBlock with
                | none => exact .inl rfl
                | some q =>
                  right
                  have := (hO.lt q hv).1
                  intro e; injection e with e; omega)
              have hB2 : Below w.heap.size w w2 := hB.grown hG2 hB.size (fun q e => by cases e; exact Nat.le_refl _)
              have hz2 := hG2.size
              have HOB := hid hob
              clear hR hq1 hq2 hq3 hq4 hM2 hM hO hob hG2 hB
              go_wp2_with (at_builtin; refine append_one (w.heap.size + 1) rfl _ _ 26 3 (.int .i64 0) 1 8 rfl Try.underlying26 info3 rfl (by decide) (by decide) (.slice Ao out.length co) out.length (nums out) #[.int .i64 x] rfl rfl rfl (by intro u hu; simp at hu; subst hu; rfl) hO2 (by omega) (by omega) ?_; intro g cap w3 hO3 hG3 hg3 hbg hlt3)
              have hM3 := hM2'.kept hG3 (by
                cases hv : (Value.slice Ao out.length co).ownBlock with
                | none => simp
                | some q => have := (hO2.lt q hv).1; intro e; injection e with e; omega)
              have hB3 : Below w.heap.size w w3 := hB2.grown hG3 hB2.size (fun q e => by have := (hO2.lt q e).1; omega)
              have hz3 := hG3.size
              rw [nums_snoc] at hO3
              go_roundg (ls.length - (k + 1))
              case measure => omega
              case rel =>
                refine ⟨k + 1, out ++ [x], some ⟨g, 0, none⟩, cap, by omega, by omega, by go_num, by simp, hB3, by simpa using hO3, hM3, by simp; omega, (fun y hy => ?_), by omega, ⟨HR.out⟩⟩
                rw [List.mem_append, List.mem_singleton] at hy
                rcases hy with hy | rfl
                · exact HOB.out y hy
                · exact ⟨hx1, hx2⟩
    · have hltz : ¬ (k : Int) < (ls.length : Int) := by omega
      have hR : gatherP skip ls = gatherEnd skip out := by unfold gatherP; rw [HA.out, List.drop_eq_nil_of_le (by omega)]; rfl
      have HR := hid hR
      have HOB := hid hob
      clear hR hM hob
      have nilPost : ∀ r : Int, gatherEnd skip out = (r, []) → GatherPost w (gatherP skip ls) (.returned (.tuple #[.int .i64 r, .slice none 0 0])) wr := fun r e => by
        refine ⟨hB, .slice none 0 0, by rw [HR.out, e], ?_, fun b hb => by cases hb⟩
        rw [HR.out, e]
        exact ⟨none, 0, rfl, Nat.le_refl _, by omega, fun h => by simp at h⟩
      have HN := hid nilPost
      clear nilPost
      have hi : IntsAt wr (.slice Ao out.length co) out := ints_of_own hO (fun y hy => by have := HOB.out y hy; unfold I64; omega) (by omega)
      by_cases h0 : out.length = 0
      · have e0 : out = [] := List.eq_nil_of_length_eq_zero h0
        have hz0 : ((out.length : Int) == 0) = true := by rw [h0]; rfl
        have HE := hid e0
        clear e0 h0 hO hi HOB
        go_wp2_with fail
        go_ret2
        exact HN.out _ (by rw [HE.out]; rfl)
      · have hz0 : ((out.length : Int) == 0) = false := by rw [beq_eq_false_iff_ne]; omega
        by_cases h1 : out.length = 1
        · obtain ⟨x, hx⟩ : ∃ x, out = [x] := by
            match out, h1 with
            | [x], _ => exact ⟨x, rfl⟩
          obtain ⟨b, off, rfl, hc0, -⟩ := hi.at_ 0 x (by rw [hx]; rfl)
          rw [Nat.add_zero] at hc0
          have hz1 : ((out.length : Int) == 1) = true := by rw [h1]; rfl
          have hz2 : (0 : Int) < (out.length : Int) := by omega
          have HE := hid hx
          clear hx h0 h1 hO hi HOB
          go_wp2_with fail
          go_ret2
          exact HN.out _ (by rw [HE.out]; rfl)
        · have hz1 : ((out.length : Int) == 1) = false := by rw [beq_eq_false_iff_ne]; omega
          have hE : gatherEnd skip out = (0, out) := by
            match out, h0, h1 with
            | [], h0, _ => exact absurd rfl h0
            | [_], _, h1 => exact absurd rfl h1
            | _ :: _ :: _, _, _ => rfl
          have HE := hid hE
          have HI := hid hi
          have HO' := hid hO
          clear h0 h1 hE hi hO
          go_wp2_with fail
          go_ret2
          refine ⟨hB, .slice Ao out.length co, by rw [HR.out, HE.out]; rfl, by rw [HR.out, HE.out]; exact HI.out, fun q hq => ?_⟩
          have := (HO'.out.lt q hq).1
          omega
end Go.Proofs.Ytnlobmepajakcaa
