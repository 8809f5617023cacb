/- What QcirSpaces' loop keeps to, and the steps that it takes: a byte of the list, spaces, and what it writes; no condition but the sizes. -/
import Derived.Test.YtnlobmepajakcaaGreatDoorSpB
import Derived.Test.YtnlobmepajakcaaGreatDoorSpP
set_option linter.unusedVariables false
set_option linter.unusedSimpArgs false
namespace Go.Proofs.YtnlobmepajakcaaGreatDoor
open Go.RowKit Go.Shelf

theorem ownF_other {w w' : World} {base : Nat} {e : TypeId} {size : Nat} {v : Value} {n : Nat} {xs : List Value} (h : w.ownsRowF base e size v n xs) {bk : Nat} {cs : Array Value} {t : TypeId} {fz : Nat × Nat} (hr : w.heap[bk]? = some (.cells cs t fz)) (ht : t ≠ e)
    (hk : ∀ k, k ≠ bk → w'.heap[k]? = w.heap[k]?) : w'.ownsRowF base e size v n xs := by
  rcases h with ⟨k1, h | ⟨g, cap, cur, fz, k2, k3, k4, k5⟩⟩
  · exact ⟨k1, .inl h⟩
  · refine ⟨k1, .inr ⟨g, cap, cur, fz, k2, k3, (hk g (fun e => ?_)).trans k4, k5⟩⟩
    subst e
    rw [hr] at k4
    injection k4 with k4
    injection k4 with _ k4 _
    exact ht k4
theorem Bld.other {B b : Nat} {l : Bs} {w w' : World} (h : Bld B b l w) {bk : Nat} {cs : Array Value} {t : TypeId} {fz : Nat × Nat} (hr : w.heap[bk]? = some (.cells cs t fz)) (ht : t ≠ 5) (hb : b ≠ bk)
    (hk : ∀ k, k ≠ bk → w'.heap[k]? = w.heap[k]?) : Bld B b l w' := by
  have F : ∀ p, Lib.BuilderAtF 27 5 B b p (Lib.byteCells l) w → Lib.BuilderAtF 27 5 B b p (Lib.byteCells l) w' := fun p h => by
    obtain ⟨h1, v, h2, h3, h4⟩ := h
    exact ⟨h1, v, (hk b hb).trans h2, ownF_other h3 hr ht hk, h4⟩
  exact h.elim (fun h => .inl (F _ h)) (fun h => .inr (F _ h))
/-- The loop's blocks: the list, the builder, the counter. -/
structure SpI (w : World) (bs b bk : Nat) (A : Option Addr) (n c i : Nat) (t : Bs) (W : World) : Prop where
  below : Below w.heap.size w W
  box : W.heap[bs]? = some (.cells #[.slice A n c] 22 (0, 0))
  cnt : W.heap[bk]? = some (.cells #[.int .i64 (i : Int)] 3 (0, 0))
  bld : Bld b b t W
theorem SpI.under {w : World} {bs b bk : Nat} {A : Option Addr} {n c i : Nat} {t : Bs} {W W' : World} (h : SpI w bs b bk A n c i t W) (hB : Below W.heap.size W W') : SpI w bs b bk A n c i t W' :=
  ⟨below_then h.below h.below.size hB, row_below h.box hB, row_below h.cnt hB, h.bld.below hB⟩
theorem SpI.lt {w : World} {bs b bk : Nat} {A : Option Addr} {n c i : Nat} {t : Bs} {W : World} (h : SpI w bs b bk A n c i t W) : bk < W.heap.size := row_lt h.cnt
theorem SpI.next {w : World} {bs b bk : Nat} {A : Option Addr} {c i : Nat} {t : Bs} {W : World} {xs : Bs} (h : SpI w bs b bk A xs.length c i t W) (h1 : w.heap.size ≤ bk) (h2 : bk ≠ bs) (h3 : b ≠ bk) (hat : BytesAt w (.slice A xs.length c) xs) (hpos : 0 < xs.length) (hle : xs.length ≤ 1000) (hi : i ≤ 100000) :
    Calls Tryz.prog 12 #[.pointer (some ⟨bk, 0, none⟩), .pointer (some ⟨bs, 0, none⟩)] W fun e w' => (∃ m : Nat, m ≤ 255 ∧ e = .returned (.int .u8 (m : Int))) ∧ SpI w bs b bk A xs.length c (i + 1) t w' ∧ (∀ k o, k ≠ bk → W.heap[k]? = some o → w'.heap[k]? = some o) := by
  refine (next_any bk bs i A c xs W w h.below h1 h2 h.cnt h.box hat hpos hle hi).mono ?_
  rintro e w' ⟨⟨x, rfl⟩, rfl⟩
  have hk : ∀ k, k ≠ bk → (W.setCell ⟨bk, 0, none⟩ (.int .i64 ((i : Int) + 1))).drew.heap[k]? = W.heap[k]? := fun k hk => heap_setCell_other W ⟨bk, 0, none⟩ k _ (fun e => hk e)
  refine ⟨⟨x.toNat, by have := x.toNat_lt; omega, rfl⟩, ⟨(h.below.setCell (p := ⟨bk, 0, none⟩) h1 _).drew, (hk bs (fun e => h2 e.symm)).trans h.box, ?_, h.bld.other h.cnt (by decide) h3 hk⟩, fun k o hne ho => (hk k hne).trans ho⟩
  have := row_set h.cnt (i := 0) (.int .i64 ((i : Int) + 1))
  exact this
theorem SpI.write {w : World} {bs b bk : Nat} {A : Option Addr} {n c i : Nat} {t : Bs} {W : World} (h : SpI w bs b bk A n c i t W) (h1 : w.heap.size ≤ b) (h2 : bs ≠ b) (h3 : bk ≠ b) (s : Bs) (hl : t.length + s.length ≤ 140737488355328) :
    Calls Tryz.prog 14 #[.pointer (some ⟨b, 0, none⟩), .string ⟨s.toArray⟩] W fun e w' => e = .returned (.tuple #[.int .i64 (s.length : Int), .nilIface]) ∧ SpI w bs b bk A n c i (t ++ s) w' := by
  have hlt : bk < W.heap.size := h.lt
  have hb : b < W.heap.size := by
    rcases h.bld with ⟨_, v, h, _⟩ | ⟨_, v, h, _⟩ <;> exact row_lt h
  refine (write_any b b t s W h.bld hl (by omega)).mono ?_
  rintro e w' ⟨rfl, k1, k2, k3⟩
  exact ⟨rfl, h.below.trans (k2.mono h1), kept_row k3 h.box h2 (by decide), kept_row k3 h.cnt h3 (by decide), k1⟩
theorem SpI.byte {w : World} {bs b bk : Nat} {A : Option Addr} {n c i : Nat} {t : Bs} {W : World} (h : SpI w bs b bk A n c i t W) (h1 : w.heap.size ≤ b) (h2 : bs ≠ b) (h3 : bk ≠ b) (x : UInt8) (hl : t.length + 1 ≤ 140737488355328) :
    Calls Tryz.prog 16 #[.pointer (some ⟨b, 0, none⟩), .int .u8 (x.toNat : Int)] W fun e w' => e = .returned .nilIface ∧ SpI w bs b bk A n c i (t ++ [x]) w' := by
  have hb : b < W.heap.size := by
    rcases h.bld with ⟨_, v, h, _⟩ | ⟨_, v, h, _⟩ <;> exact row_lt h
  refine (writeByte_any b b t x W h.bld hl (by omega)).mono ?_
  rintro e w' ⟨rfl, k1, k2, k3⟩
  exact ⟨rfl, h.below.trans (k2.mono h1), kept_row k3 h.box h2 (by decide), kept_row k3 h.cnt h3 (by decide), k1⟩
theorem SpI.string {w : World} {bs b bk : Nat} {A : Option Addr} {n c i : Nat} {t : Bs} {W : World} (h : SpI w bs b bk A n c i t W) (h1 : w.heap.size ≤ b) :
    Calls Tryz.prog 18 #[.pointer (some ⟨b, 0, none⟩)] W fun e w' => e = .returned (.string ⟨t.toArray⟩) ∧ Below w.heap.size w w' := by
  have hb : b < W.heap.size := by
    rcases h.bld with ⟨_, v, h, _⟩ | ⟨_, v, h, _⟩ <;> exact row_lt h
  refine (string_any b b t W h.bld (by omega)).mono ?_
  rintro e w' ⟨rfl, k1, k2, k3⟩
  exact ⟨rfl, h.below.trans (k2.mono h1)⟩
theorem rep_sp : ∀ c : Nat, Lib.repeatL [32] c = List.replicate c 32
  | 0 => rfl
  | c + 1 => by
    have := rep_sp c
    show [32] ++ Lib.repeatL [32] c = _
    rw [this]; rfl
theorem repS_any (c : Nat) (w : World) (hc : c ≤ 100000000) : Calls Tryz.prog 15 #[.string ⟨#[32]⟩, .int .i64 (c : Int)] w fun e w' => (∃ L : Bs, e = .returned (.string ⟨L.toArray⟩) ∧ L = List.replicate c 32 ∧ L.length = c) ∧ Below w.heap.size w w' := by
  refine (Tryz.strings_Repeat ⟨#[32]⟩ c w (by omega) (by show 1 * c ≤ _; omega)).mono ?_
  rintro e w' ⟨rfl, hB⟩
  refine ⟨⟨List.replicate c 32, ?_, rfl, List.length_replicate⟩, hB⟩
  rw [← rep_sp]
theorem indexP_any (c : UInt8) (w : World) : Calls Tryz.prog 13 #[.string ⟨#[40, 41, 44, 61, 45]⟩, .int .u8 (c.toNat : Int)] w fun e w' => (∃ x : Int, e = .returned (.int .i64 x) ∧ decide (0 ≤ x) = isPun c) ∧ w' = w := by
  refine (Tryz.strings_IndexByte ⟨#[40, 41, 44, 61, 45]⟩ (c.toNat : Int) w).mono ?_
  rintro e w' ⟨rfl, rfl⟩
  refine ⟨⟨_, rfl, ?_⟩, rfl⟩
  rw [← pun_index c]
  have : (c.toNat : Int).toNat.toUInt8 = c := by simp
  rw [this]
theorem contains_any (s : Bs) (w : World) : Calls Tryz.prog 10 #[.string ⟨s.toArray⟩, .string ⟨#[35]⟩] w fun e w' => e = .returned (.bool (decide (0 ≤ Lib.indexByte s 35))) ∧ w' = w :=
  Tryz.strings_Contains_one ⟨s.toArray⟩ 35 w
theorem mod_three {m : Nat} : (m : Int).tmod 3 = ((m % 3 : Nat) : Int) := by rw [Int.tmod_eq_emod_of_nonneg (by omega), Int.natCast_emod]; rfl
theorem mod_two {m : Nat} : (m : Int).tmod 2 = ((m % 2 : Nat) : Int) := by rw [Int.tmod_eq_emod_of_nonneg (by omega), Int.natCast_emod]; rfl
theorem mod_five {m : Nat} : (m : Int).tmod 5 = ((m % 5 : Nat) : Int) := by rw [Int.tmod_eq_emod_of_nonneg (by omega), Int.natCast_emod]; rfl
end Go.Proofs.YtnlobmepajakcaaGreatDoor
