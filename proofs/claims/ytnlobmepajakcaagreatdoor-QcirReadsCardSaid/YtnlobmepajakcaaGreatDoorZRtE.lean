/- What parse of the document's reader does; the condition: texts have at most 2^22 bytes. -/
import Derived.Test.YtnlobmepajakcaaGreatDoorZRtD
set_option linter.unusedVariables false
set_option linter.unusedSimpArgs false
namespace Go.Proofs.YtnlobmepajakcaaGreatDoor
open Go.RowKit Go.Shelf
attribute [local go_sem] Oper.semAt_some

theorem tok_small : ∀ (n : Nat) (s : Bs) (ts : List Tok), s.length ≤ n → tokP s = some ts → ∀ x ∈ ts, x.n ≤ 65536 := by
  intro n
  induction n with
  | zero =>
    intro s ts hn h
    have hs : s = [] := List.eq_nil_of_length_eq_zero (by omega)
    subst hs
    injection h with h
    subst h
    exact fun x hx => by cases hx
  | succ n ih =>
    intro s ts hn h
    cases s with
    | nil =>
      injection h with h
      subst h
      exact fun x hx => by cases hx
    | cons c r =>
      simp only [List.length_cons] at hn
      have key : ∀ (q : Bs) (y : Tok), q.length ≤ r.length → y.n ≤ 65536 → (tokP q).map (fun ts => y :: ts) = some ts → ∀ x ∈ ts, x.n ≤ 65536 := fun q y hq hy he => by
        obtain ⟨a, ha, e⟩ := Option.map_eq_some_iff.1 he
        have k2 := ih q a (by omega) ha
        subst e
        intro x hx
        rcases List.mem_cons.1 hx with rfl | hx
        · exact hy
        · exact k2 x hx
      rw [tok_cons] at h
      split at h
      · exact ih r ts (by omega) h
      · split at h
        · exact key _ _ (dropWhile_len _ _) (Nat.zero_le _) h
        · split at h
          · split at h
            · cases h
            · exact key _ _ (dropWhile_len _ _) (by show decV 0 _ ≤ 65536; omega) h
          · split at h
            · exact key _ _ (Nat.le_refl _) (Nat.zero_le _) h
            · cases h
theorem results_row_tmpQ {P : Program} {fn : Func} {p u : Tmp} {ty : TypeId} (h : fn.results = #[.cell p ty, .tmp u]) (tmps : Array Value) (w : World) (g : Nat) (t : TypeId) (cs : Array Value) (fr : Nat × Nat) (d : TypeDesc)
    (hp : tmps.getD p undef = .pointer (some ⟨g, 0, none⟩)) (hg : w.heap[g]? = some (.cells cs t fr))
    (hu : P.underlying ty = some d) (hd : (match d with | .struct _ | .array _ _ => true | _ => false) = true) (hi : (P.info? ty).map (·.size) = some cs.size) :
    (results fn tmps).run P w = .ok (.tuple #[.agg cs, tmps.getD u undef]) w := by
  rw [results_cell_tmp h, hp]
  simp [asAddr, run_loadVar_row w g t ty cs fr d hg hu hd hi, Result.andThen]
/-- What a line says, and what parse returns for it. -/
def PMeans (w w' : World) (P : PLine) (word : Bs) (A : Option Addr) (n c : Nat) (var : Int) (ok : Bool) : Prop :=
  (ok = false ∧ P = .bad) ∨ (ok = true ∧ ∃ l, n = l.length ∧ w'.ownsRow w.heap.size 3 1 (.slice A n c) n (nums l) ∧
    ((∃ v : Nat, P = .gate v (kindP word) l ∧ kindP word ≠ 0 ∧ var = v ∧ 0 < v ∧ v ≤ 65536) ∨ (∃ x, P = .out x ∧ l = [x] ∧ word = wOutput ∧ var = 0) ∨ (P = .block (wordP word) l ∧ (word = wFree ∨ word = wExists ∨ word = wForall) ∧ var = 0)))
def ParsePost (w : World) (P : PLine) (e : Ending) (w' : World) : Prop := Below w.heap.size w w' ∧ ∃ word A n c var ok, e = .returned (.tuple #[.agg #[.string ⟨word.toArray⟩, .slice A n c, .int .i64 var], .bool ok]) ∧ PMeans w w' P word A n c var ok
/-- What literals returns, the list and the flag apart. -/
def LitM (W w' : World) (r : Option (List Int)) (A : Option Addr) (n c : Nat) (fine : Bool) : Prop := (fine = false ∧ r = none) ∨ (fine = true ∧ ∃ l, r = some l ∧ n = l.length ∧ w'.ownsRow W.heap.size 3 1 (.slice A n c) n (nums l))
theorem litG {A : Option Addr} {n c : Nat} {ts : List Tok} {signs : Bool} {w : World} (h : ToksAt w (.slice A n c) ts) (hl : n ≤ 4194304) (hn : ∀ t ∈ ts, t.n ≤ 65536) :
    Calls Tryz.prog 107 #[.slice A n c, .bool signs] w fun e w' => ∃ A' n' c' fine, e = .returned (.tuple #[.slice A' n' c', .bool fine]) ∧ Below w.heap.size w w' ∧ LitM w w' (literalsT ts signs) A' n' c' fine := by
  refine (literalsR_any A n c ts signs w h hl hn).mono ?_
  rintro e w' ⟨hB, h⟩
  cases hr : literalsT ts signs with
  | none => rw [hr] at h; exact ⟨none, 0, 0, false, h, hB, .inl ⟨rfl, rfl⟩⟩
  | some l =>
    rw [hr] at h
    obtain ⟨A', c', e, hO⟩ := h
    exact ⟨A', l.length, c', true, e, hB, .inr ⟨rfl, l, rfl, rfl, hO⟩⟩
theorem toks_drop {w : World} {b off n c : Nat} {ts : List Tok} (k : Nat) (h : ToksAt w (.slice (some ⟨b, off, none⟩) n c) ts) (hk : k ≤ n) : ToksAt w (.slice (some ⟨b, off + k * 3, none⟩) (n - k) (c - k)) (ts.drop k) := by
  obtain ⟨A', c', e, h1, h2, h3⟩ := h
  cases e
  refine ⟨some ⟨b, off + k * 3, none⟩, c - k, by rw [List.length_drop], by rw [List.length_drop]; omega, by omega, fun hp => ⟨b, off + k * 3, rfl, fun j x hx => ?_⟩⟩
  obtain ⟨b', off', e, h4⟩ := h3 (by rw [List.length_drop] at hp; omega)
  injection e with e
  injection e with e1 e2
  subst e1; subst e2
  have := h4 (k + j) x (by rw [← List.getElem?_drop]; exact hx)
  rw [show off + k * 3 + j * 3 = off + (k + j) * 3 by omega]
  exact this
theorem own_up {w w' W : World} {v : Value} {n : Nat} {xs : List Value} (h : w'.ownsRow W.heap.size 3 1 v n xs) (hs : w.heap.size ≤ W.heap.size) : w'.ownsRow w.heap.size 3 1 v n xs := own_lower h hs
theorem pm_block {w W w' : World} {a b : Tok} {r : List Tok} {A : Option Addr} {n c : Nat} {fine : Bool} (hng : ¬ (0 < a.n ∧ b.byte = 61 ∧ r ≠ [])) (hw : a.word = wFree ∨ a.word = wExists ∨ a.word = wForall) (hs : w.heap.size ≤ W.heap.size)
    (h : LitM W w' (literalsT (b :: r) false) A n c fine) : PMeans w w' (parseT (a :: b :: r)) a.word A n c 0 fine := by
  rw [parseT_cons, if_neg hng, show decide (a.word = wOutput) = false by rcases hw with h | h | h <;> rw [h] <;> decide]
  rcases h with ⟨rfl, hr⟩ | ⟨rfl, l, hr, h1, h2⟩
  · rw [hr]; exact .inl ⟨rfl, rfl⟩
  · rw [hr]
    refine .inr ⟨rfl, l, h1, own_up h2 hs, .inr (.inr ⟨?_, hw, rfl⟩)⟩
    simp only
    rcases hw with h | h | h <;> rw [h] <;> rfl
theorem pm_out {w W w' : World} {a b : Tok} {r : List Tok} {A : Option Addr} {n c : Nat} {fine : Bool} (hng : ¬ (0 < a.n ∧ b.byte = 61 ∧ r ≠ [])) (hw : a.word = wOutput) (hs : w.heap.size ≤ W.heap.size)
    (h : LitM W w' (literalsT (b :: r) true) A n c fine) : PMeans w w' (parseT (a :: b :: r)) a.word A n c 0 (fine && decide (n = 1)) := by
  rw [parseT_cons, if_neg hng, show decide (a.word = wOutput) = true by rw [hw]; decide]
  rcases h with ⟨rfl, hr⟩ | ⟨rfl, l, hr, h1, h2⟩
  · rw [hr]; exact .inl ⟨rfl, rfl⟩
  · rw [hr]
    simp only
    rw [if_pos (by rw [hw]; decide)]
    rcases l with _ | ⟨x, _ | ⟨y, l⟩⟩
    · subst h1; exact .inl ⟨rfl, rfl⟩
    · subst h1; exact .inr ⟨rfl, [x], rfl, own_up h2 hs, .inr (.inl ⟨x, rfl, rfl, hw, rfl⟩)⟩
    · refine .inl ⟨?_, rfl⟩
      subst h1
      simp
theorem pm_other {w w' : World} {a b : Tok} {r : List Tok} {A : Option Addr} {n c : Nat} {word : Bs} (hng : ¬ (0 < a.n ∧ b.byte = 61 ∧ r ≠ [])) (hw : wordP a.word = 0) : PMeans w w' (parseT (a :: b :: r)) word A n c 0 false := by
  refine .inl ⟨rfl, ?_⟩
  rw [parseT_cons, if_neg hng]
  generalize literalsT (b :: r) (decide (a.word = wOutput)) = q
  cases q with
  | none => rfl
  | some l => simp only; rw [if_neg (by rw [hw]; decide), if_pos hw]
theorem pm_gate {w W w' w2 : World} {a b t : Tok} {q : List Tok} {A : Option Addr} {n c : Nat} {fine : Bool} (h1 : 0 < a.n) (h2 : b.byte = 61) (ha : a.n ≤ 65536) (hs : w.heap.size ≤ W.heap.size)
    (h : LitM W w' (literalsT q true) A n c fine) (hk : ∀ v xs, w'.ownsRow W.heap.size 3 1 v n xs → w2.ownsRow W.heap.size 3 1 v n xs) : PMeans w w2 (parseT (a :: b :: t :: q)) t.word A n c (a.n : Int) (fine && decide (kindP t.word ≠ 0)) := by
  rw [parseT_cons, if_pos ⟨h1, h2, by simp⟩]
  rcases h with ⟨rfl, hr⟩ | ⟨rfl, l, hr, h3, h4⟩
  · simp only [hr]; exact .inl ⟨rfl, rfl⟩
  · simp only [hr]
    by_cases hk0 : kindP t.word = 0
    · rw [if_pos hk0]; exact .inl ⟨by simp [hk0], rfl⟩
    · rw [if_neg hk0]
      exact .inr ⟨by simp [hk0], l, h3, own_up (hk _ _ h4) hs, .inl ⟨a.n, rfl, hk0, rfl, h1, ha⟩⟩
theorem word_other {wd : Bs} (h1 : wd ≠ wFree) (h2 : wd ≠ wExists) (h3 : wd ≠ wForall) (h4 : wd ≠ wOutput) : wordP wd = 0 := by
  unfold wordP; rw [if_neg h1, if_neg h2, if_neg h3, if_neg h4]
theorem ParsePost.of {w : World} {r r' : PLine} (h : r' = r) {e : Ending} {w' : World} (k : ParsePost w r e w') : ParsePost w r' e w' := by subst h; exact k
theorem litM_put {W w' w2 : World} {r : Option (List Int)} {A : Option Addr} {n c : Nat} {fine : Bool} {z : Nat} (h : LitM W w' r A n c fine) (hg : w'.grownBy w2 (some z)) (hz : z < W.heap.size) : LitM W w2 r A n c fine := by
  rcases h with h | ⟨h1, l, h2, h3, h4⟩
  · exact .inl h
  · exact .inr ⟨h1, l, h2, h3, own_far h4 hg hz⟩
set_option maxRecDepth 100000 in
set_option maxHeartbeats 20000000 in
theorem parse_any (s : Bs) (w : World) (hl : s.length ≤ 4194304) : Calls Tryz.prog 65 #[.string ⟨s.toArray⟩] w (ParsePost w (tokL s)) := by
  obtain ⟨w1, hw1, -, -, hz1, hB1, q1⟩ := new_block w #[.string ⟨#[]⟩, .slice none 0 0, .int .i64 0] 113
  have CT := tokens_any s w1 hl
  have hwz : w.heap.size < w1.heap.size := by omega
  cases htp : tokP s with
  | none =>
    have HPL := hid (show tokL s = .bad by unfold tokL; rw [htp])
    have CT' : Calls Tryz.prog 105 #[.string ⟨s.toArray⟩] w1 fun e w' => e = .returned (.tuple #[.slice none 0 0, .bool false]) ∧ Below w1.heap.size w1 w' := CT.mono (fun e w' h => by rw [htp] at h; exact ⟨h.2, h.1⟩)
    clear CT htp
    go_enter Tryz.func65, Tryz.ntmps65
    go_wp2_with fail
    refine CT'.mono ?_
    rintro e w2 ⟨rfl, hB2⟩
    have hB02 := below_then hB1 hB1.size hB2
    have r2 := row_below q1 hB2
    clear q1 CT'
    obtain ⟨f0, c0, f1, c1, f2, c2, rr, gg⟩ := put25 r2 (.string ⟨([] : Bs).toArray⟩) (.slice none 0 0) (.int .i64 0)
    go_wp2_with fail
    exact bodyPost_ret (results_row_tmpQ (p := 2) (u := 3) (ty := 113) rfl _ _ w.heap.size 113 _ (0, 0) _ rfl rr Tryz.underlying113 rfl (by kernel_rfl)) rfl (ParsePost.of HPL.out ⟨hB02.grown gg hB02.size (fun r e => by injection e with e; omega), [], none, 0, 0, 0, false, rfl, .inl ⟨rfl, rfl⟩⟩)
  | some ts =>
    have htsl := (tok_facts s.length s ts (Nat.le_refl _) htp).1
    have HSM0 := hid (tok_small s.length s ts (Nat.le_refl _) htp)
    have HPL := hid (show tokL s = parseT ts by unfold tokL; rw [htp])
    have CT' : Calls Tryz.prog 105 #[.string ⟨s.toArray⟩] w1 fun e w' => ∃ A c, e = .returned (.tuple #[.slice A ts.length c, .bool true]) ∧ Below w1.heap.size w1 w' ∧ ToksAt w' (.slice A ts.length c) ts ∧ ∀ b, (Value.slice A ts.length c).ownBlock = some b → w1.heap.size ≤ b := CT.mono (fun e w' h => by
      rw [htp] at h
      obtain ⟨h1, A, c, h2, h3, h4⟩ := h
      exact ⟨A, c, h2, h1, h3, h4⟩)
    clear CT htp
    obtain ⟨n, hn⟩ : ∃ n, ts.length = n := ⟨_, rfl⟩
    rw [hn] at CT' htsl
    have HN := hid hn
    by_cases h2 : n < 2
    · have hz : (n : Int) < 2 := by omega
      have HPL : Hid (tokL s = .bad) := hid (by
        rw [HPL.out]
        rcases ts with _ | ⟨a, _ | ⟨b, r⟩⟩
        · rfl
        · rfl
        · simp at hn; omega)
      clear h2 hn
      go_enter Tryz.func65, Tryz.ntmps65
      go_wp2_with fail
      refine CT'.mono ?_
      rintro e w2 ⟨A, c, rfl, hB2, hTk, hown⟩
      have hB02 := below_then hB1 hB1.size hB2
      have r2 := row_below q1 hB2
      clear q1 CT' hTk hown
      obtain ⟨f0, c0, f1, c1, f2, c2, rr, gg⟩ := put25 r2 (.string ⟨([] : Bs).toArray⟩) (.slice none 0 0) (.int .i64 0)
      go_wp2_with fail
      exact bodyPost_ret (results_row_tmpQ (p := 2) (u := 3) (ty := 113) rfl _ _ w.heap.size 113 _ (0, 0) _ rfl rr Tryz.underlying113 rfl (by kernel_rfl)) rfl (ParsePost.of HPL.out ⟨hB02.grown gg hB02.size (fun r e => by injection e with e; omega), [], none, 0, 0, 0, false, rfl, .inl ⟨rfl, rfl⟩⟩)
    · obtain ⟨a, b, r, rfl⟩ : ∃ a b r, ts = a :: b :: r := by
        rcases ts with _ | ⟨a, _ | ⟨b, r⟩⟩
        · simp at hn; omega
        · simp at hn; omega
        · exact ⟨a, b, r, rfl⟩
      have hz : ¬ (n : Int) < 2 := by omega
      have h2n : 2 ≤ n := by omega
      have hz0 : (0 : Int) < (n : Int) := by omega
      have hz1' : (1 : Int) < (n : Int) := by omega
      have hzd : decide ((n : Int) < 2) = false := decide_eq_false hz
      have HSM := HSM0
      clear hn hz HSM0
      go_enter Tryz.func65, Tryz.ntmps65
      go_wp2_with fail
      refine CT'.mono ?_
      rintro e w2 ⟨A, c, rfl, hB2, hTk, hown⟩
      have hB02 := below_then hB1 hB1.size hB2
      have r2 := row_below q1 hB2
      obtain ⟨-, hnc, hcm⟩ := hTk.cap
      obtain ⟨b0, off, rfl, p0, p1, p2⟩ := hTk.at_ 0 a rfl
      obtain ⟨bb, oo, e, s0, s1, s2⟩ := hTk.at_ 1 b rfl
      injection e with e
      injection e with e1 e2
      subst e1; subst e2
      have hb0 := hown b0 rfl
      unfold sv at s0
      simp only [Nat.zero_mul, Nat.add_zero, Nat.one_mul] at p1 s0 s1 s2
      clear q1 CT' hown p0 p2
      by_cases ha0 : 0 < a.n
      · have CB := isT_any b 61 w2
        by_cases h61 : b.byte = 61
        · rw [decide_eq_true h61] at CB
          have H61 := hid h61
          clear h61
          by_cases h3 : 2 < n
          · skip
            obtain ⟨t, q, rfl⟩ : ∃ t q, r = t :: q := by
              cases r with
              | nil => have := HN.out; simp at this; omega
              | cons t q => exact ⟨t, q, rfl⟩
            have hz3 : (2 : Int) < (n : Int) := by omega
            have h0n : 0 < n := by omega
            have ha65 := HSM.out a (by simp)
            rcases Nat.lt_or_ge 3 c with hc3 | hc3
            · skip
              go_wp2_with fail
              refine CB.mono ?_
              rintro e w3 ⟨rfl, hB3⟩
              have hB03 := below_then hB02 hB02.size hB3
              have r3 := row_below r2 hB3
              have hT3 := hTk.keep (keeps_below hB3)
              have hT33 := toks_drop 3 hT3 (by omega)
              simp only [List.drop_succ_cons, List.drop_zero, show 3 * 3 = 9 from rfl] at hT33
              have CL := litG (signs := true) hT33 (by omega) (fun t' ht => HSM.out t' (by simp only [List.mem_cons] at ht ⊢; exact .inr (.inr (.inr ht))))
              have p3 := keeps_below hB3 _ _ p1
              obtain ⟨bb, oo, e, u0, -, -⟩ := hT3.at_ 2 t rfl
              injection e with e
              injection e with e1 e2
              subst e1; subst e2
              simp only [show 2 * 3 = 6 from rfl] at u0
              unfold sv at u0
              clear CB s0 s1 s2 p1 hTk r2 hT3
              go_wp2_with fail
              refine CL.mono ?_
              rintro e w5 ⟨A5, n5, c5, fine, rfl, hB5, hM⟩
              have hB05 := below_then hB03 hB03.size hB5
              have q5 := row_below r3 hB5
              have HM5 := hid hM
              have hz3s : w.heap.size < w3.heap.size := row_lt r3
              have hSK : Hid (∀ W, Below w5.heap.size w5 W → (fun W => W.cell? ⟨b0, off + 6, none⟩ = some (.string ⟨t.word.toArray⟩) ∧ W.cell? ⟨b0, off + 1, none⟩ = some (.int .i64 (a.n : Int))) W) := hid (fun W hW => ⟨keeps_below hW _ _ (keeps_below hB5 _ _ u0), keeps_below hW _ _ (keeps_below hB5 _ _ p3)⟩)
              have hBd : Below w5.heap.size w5 w5.drew := (Below.refl _ w5).drew
              clear hM CL u0 p3 hT33
              cases fine with
              | true =>
                go_wp2_with fail
                refine wp_region_held_drew (S := (fun W => W.cell? ⟨b0, off + 6, none⟩ = some (.string ⟨t.word.toArray⟩) ∧ W.cell? ⟨b0, off + 1, none⟩ = some (.int .i64 (a.n : Int)))) (by kernel_rfl) (hSK.out _ hBd) (fun hHeld => ?_)
                generalize w5.drew = w6 at *
                refine wpAnyH_take (i := 0) (v := ?vn1) rfl (by kernel_rfl) (by kernel_rfl) (by kernel_rfl) (fun _ _ _ h => h) (Or.inl ⟨by rfl, ?yn1⟩) hHeld ?_
                case yn1 => (intro w' hSw; (try dsimp only at hSw); go_simp); (try with_reducible rfl)
                try simp only [Act.put, List.setIfInBounds_toArray, List.set_cons_zero, List.set_cons_succ]
                refine wpAnyH_take (i := 1) (v := ?vn2) rfl (by kernel_rfl) (by kernel_rfl) (by kernel_rfl) (fun _ _ _ h => h) (Or.inl ⟨by rfl, ?yn2⟩) hHeld ?_
                case yn2 => (intro w' hSw; (try dsimp only at hSw); go_simp); (try with_reducible rfl)
                try simp only [Act.put, List.setIfInBounds_toArray, List.set_cons_zero, List.set_cons_succ]
                refine wpAnyH_take (i := 2) (v := ?vn3) rfl (by kernel_rfl) (by kernel_rfl) (by kernel_rfl) (fun _ _ _ h => h) (Or.inl ⟨by rfl, ?yn3⟩) hHeld ?_
                case yn3 => (intro w' hSw; (try dsimp only at hSw); go_simp); (try with_reducible rfl)
                try simp only [Act.put, List.setIfInBounds_toArray, List.set_cons_zero, List.set_cons_succ]
                refine wpAnyH_take (i := 3) (v := ?vn4) rfl (by kernel_rfl) (by kernel_rfl) (by kernel_rfl) (fun _ _ _ h => h) (Or.inl ⟨by rfl, ?yn4⟩) hHeld ?_
                case yn4 => (intro w' hSw; (try dsimp only at hSw); go_simp); (try with_reducible rfl)
                try simp only [Act.put, List.setIfInBounds_toArray, List.set_cons_zero, List.set_cons_succ]
                refine wpAnyH_take (i := 4) (v := ?vn5) rfl (by kernel_rfl) (by kernel_rfl) (by kernel_rfl) (fun _ _ _ h => h) (Or.inl ⟨by rfl, ?yn5⟩) hHeld ?_
                case yn5 => (intro w' hSw; (try dsimp only at hSw); go_simp); (try with_reducible rfl)
                try simp only [Act.put, List.setIfInBounds_toArray, List.set_cons_zero, List.set_cons_succ]
                refine wpAnyH_take (i := 5) (v := ?vn6) rfl (by kernel_rfl) (by kernel_rfl) (by kernel_rfl) (fun _ _ _ h => h) (Or.inl ⟨by rfl, ?yn6⟩) hHeld ?_
                case yn6 => (intro w' hSw; (try dsimp only at hSw); go_simp); (try with_reducible rfl)
                try simp only [Act.put, List.setIfInBounds_toArray, List.set_cons_zero, List.set_cons_succ]
                refine wpAnyH_take (i := 6) (v := ?vn7) rfl (by kernel_rfl) (by kernel_rfl) (by kernel_rfl) (fun _ _ _ h => h) (Or.inl ⟨by rfl, ?yn7⟩) hHeld ?_
                case yn7 => (intro w' hSw; (try dsimp only at hSw); go_simp); (try with_reducible rfl)
                try simp only [Act.put, List.setIfInBounds_toArray, List.set_cons_zero, List.set_cons_succ]
                refine wpAnyH_take (i := 7) (v := ?vn8) rfl (by kernel_rfl) (by kernel_rfl) (by kernel_rfl) (fun _ _ _ h => h) (Or.inl ⟨by rfl, ?yn8⟩) hHeld ?_
                case yn8 => (intro w' hSw; (try dsimp only at hSw); go_simp); (try with_reducible rfl)
                try simp only [Act.put, List.setIfInBounds_toArray, List.set_cons_zero, List.set_cons_succ]
                refine wpAnyH_take (i := 8) (v := ?vn9) rfl (by kernel_rfl) (by kernel_rfl) (by kernel_rfl) (fun _ _ _ h => h) (Or.inl ⟨by rfl, ?yn9⟩) hHeld ?_
                case yn9 => (intro w' hSw; (try dsimp only at hSw); go_simp); (try with_reducible rfl)
                try simp only [Act.put, List.setIfInBounds_toArray, List.set_cons_zero, List.set_cons_succ]
                refine wpAnyH_take (i := 9) (v := ?vn10) rfl (by kernel_rfl) (by kernel_rfl) (by kernel_rfl) (fun _ _ _ h => h) (Or.inl ⟨by rfl, ?yn10⟩) hHeld ?_
                case yn10 => (intro w' hSw; (try dsimp only at hSw); go_simp); (try with_reducible rfl)
                try simp only [Act.put, List.setIfInBounds_toArray, List.set_cons_zero, List.set_cons_succ]
                refine wpAnyH_take (i := 10) (v := ?vn11) rfl (by kernel_rfl) (by kernel_rfl) (by kernel_rfl) (fun _ _ _ h => h) (Or.inl ⟨by rfl, ?yn11⟩) hHeld ?_
                case yn11 => (intro w' hSw; (try dsimp only at hSw); go_simp); (try with_reducible rfl)
                try simp only [Act.put, List.setIfInBounds_toArray, List.set_cons_zero, List.set_cons_succ]
                refine wpAnyH_take (i := 11) (v := ?vn12) rfl (by kernel_rfl) (by kernel_rfl) (by kernel_rfl) (fun _ _ _ h => h) (Or.inl ⟨by rfl, ?yn12⟩) hHeld ?_
                case yn12 => (intro w' hSw; (try dsimp only at hSw); go_simp); (try with_reducible rfl)
                try simp only [Act.put, List.setIfInBounds_toArray, List.set_cons_zero, List.set_cons_succ]
                refine wpAnyH_take (i := 12) (v := ?vn13) rfl (by kernel_rfl) (by kernel_rfl) (by kernel_rfl) (fun _ _ _ h => h) (Or.inl ⟨?yg13, ?yn13⟩) hHeld ?_
                case yg13 => go_simp
                case yn13 => (intro w' hSw; (try dsimp only at hSw); go_simp); (try with_reducible rfl)
                try simp only [Act.put, List.setIfInBounds_toArray, List.set_cons_zero, List.set_cons_succ]
                refine wpAnyH_take (i := 13) (v := ?vn14) rfl (by kernel_rfl) (by kernel_rfl) (by kernel_rfl) (fun _ _ _ h => h) (Or.inl ⟨?yg14, ?yn14⟩) hHeld ?_
                case yg14 => go_simp
                case yn14 => (intro w' hSw; (try dsimp only at hSw); go_simp); (try with_reducible rfl)
                try simp only [Act.put, List.setIfInBounds_toArray, List.set_cons_zero, List.set_cons_succ]
                refine wpAnyH_take (i := 14) (v := ?vn15) rfl (by kernel_rfl) (by kernel_rfl) (by kernel_rfl) (fun _ _ _ h => h) (Or.inl ⟨?yg15, ?yn15⟩) hHeld ?_
                case yg15 => go_simp
                case yn15 => (intro w' hSw; (try dsimp only at hSw); go_simp); (try with_reducible rfl)
                try simp only [Act.put, List.setIfInBounds_toArray, List.set_cons_zero, List.set_cons_succ]
                refine wpAnyH_take (i := 15) (v := ?vn16) rfl (by kernel_rfl) (by kernel_rfl) (by kernel_rfl) (fun _ _ _ h => h) (Or.inl ⟨?yg16, ?yn16⟩) hHeld ?_
                case yg16 => go_simp
                case yn16 => (intro w' hSw; (try dsimp only at hSw); go_simp); (try with_reducible rfl)
                try simp only [Act.put, List.setIfInBounds_toArray, List.set_cons_zero, List.set_cons_succ]
                refine wpAnyH_ready (rs := [16]) (by kernel_rfl) (by simp) ?_
                refine AllReadyH.cons rfl (fun Kc hKc => ?_) AllReadyH.nil
                go_simp
                go_at_call 108
                refine (kind_any t.word w6).mono ?_
                rintro e w7 ⟨rfl, hB7⟩
                have hB57 := below_then hBd hBd.size hB7
                go_wp2_with fail
                refine hKc.out _ _ (hSK.out w7 hB57) (fun hHeld => ?_)
                clear hKc Kc
                try simp only [Act.put, List.setIfInBounds_toArray, List.set_cons_zero, List.set_cons_succ]
                generalize hkk : kindP t.word = kk
                have HKK := hid hkk
                clear hkk
                by_cases hk0 : kk = 0
                · have hzk : ((kk : Int) != 0) = false := by rw [hk0]; rfl
                  have HK0 := hid hk0
                  clear hk0
                  refine wpAnyH_take (i := 17) (v := ?vn17) rfl (by kernel_rfl) (by kernel_rfl) (by kernel_rfl) (fun _ _ _ h => h) (Or.inl ⟨?yg17, ?yn17⟩) hHeld ?_
                  case yg17 => go_simp
                  case yn17 => (intro w' hSw; (try dsimp only at hSw); go_simp); (try with_reducible rfl)
                  try simp only [Act.put, List.setIfInBounds_toArray, List.set_cons_zero, List.set_cons_succ]
                  refine wpAnyH_take (i := 18) (v := ?vn18) rfl (by kernel_rfl) (by kernel_rfl) (by kernel_rfl) (fun _ _ _ h => h) (Or.inl ⟨by rfl, ?yn18⟩) hHeld ?_
                  case yn18 => (intro w' hSw; (try dsimp only at hSw); go_simp); (try with_reducible rfl)
                  try simp only [Act.put, List.setIfInBounds_toArray, List.set_cons_zero, List.set_cons_succ]
                  have q6 := row_below q5 hB57
                  have hB06 := below_then hB05 hB05.size hB57
                  obtain ⟨f0, c0, f1, c1, f2, c2, rr, gg⟩ := put25 q6 (.string ⟨t.word.toArray⟩) (.slice A5 n5 c5) (.int .i64 (a.n : Int))
                  have hSZ := hSK.out w7 hB57
                  have hS9 := And.intro (gg.cell hSZ.1 (by intro e; injection e with e; have e' : b0 = w.heap.size := e; omega)) (gg.cell hSZ.2 (by intro e; injection e with e; have e' : b0 = w.heap.size := e; omega))
                  refine wpAnyH_ready (rs := [19]) (by kernel_rfl) (by simp) ?_
                  refine AllReadyH.cons rfl (fun Kc hKc => ?_) AllReadyH.nil
                  go_simp
                  refine hKc.out _ _ hS9 (fun hHeld => ?_)
                  clear hKc Kc
                  try simp only [Act.put, List.setIfInBounds_toArray, List.set_cons_zero, List.set_cons_succ]
                  refine wpAnyH_take (i := 20) (v := ?vn19) rfl (by kernel_rfl) (by kernel_rfl) (by kernel_rfl) (fun _ _ _ h => h) (Or.inl ⟨by rfl, ?yn19⟩) hHeld ?_
                  case yn19 => (intro w' hSw; (try dsimp only at hSw); go_simp); (try with_reducible rfl)
                  try simp only [Act.put, List.setIfInBounds_toArray, List.set_cons_zero, List.set_cons_succ]
                  try simp only [Act.put, List.getElem_toArray, List.getElem_cons_succ, List.getElem_cons_zero, List.setIfInBounds_toArray, List.set_cons_zero, List.set_cons_succ]
                  try simp only [Act.put, List.setIfInBounds_toArray, List.set_cons_zero, List.set_cons_succ]
                  refine wpAnyH_done (by kernel_rfl) ?_ _
                  go_wp2_with fail
                  refine bodyPost_ret (results_row_tmpQ (p := 2) (u := 3) (ty := 113) rfl _ _ w.heap.size 113 _ (0, 0) _ rfl rr Tryz.underlying113 rfl (by kernel_rfl)) rfl (ParsePost.of HPL.out ⟨hB06.grown gg hB06.size (fun r e => by injection e with e; omega), t.word, A5, n5, c5, (a.n : Int), false, rfl, ?_⟩)
                  have k := pm_gate (t := t) (w := w) (w2 := (((w7).setCell ⟨w.heap.size, 0, none⟩ (.string ⟨t.word.toArray⟩)).setCell ⟨w.heap.size, 1, none⟩ (.slice A5 n5 c5)).setCell ⟨w.heap.size, 2, none⟩ (.int .i64 (a.n : Int))) ha0 H61.out ha65 hB03.size HM5.out (fun v xs h => own_far (h.kept (grown_of_below hB57 none) (by cases v.ownBlock <;> simp)) gg (by omega))
                  rw [HKK.out, HK0.out] at k
                  exact k
                · have hzk : ((kk : Int) != 0) = true := bne_iff_ne.2 (by omega)
                  have HK0 := hid hk0
                  clear hk0
                  refine wpAnyH_take (i := 17) (v := ?vn20) rfl (by kernel_rfl) (by kernel_rfl) (by kernel_rfl) (fun _ _ _ h => h) (Or.inl ⟨?yg20, ?yn20⟩) hHeld ?_
                  case yg20 => go_simp
                  case yn20 => (intro w' hSw; (try dsimp only at hSw); go_simp); (try with_reducible rfl)
                  try simp only [Act.put, List.setIfInBounds_toArray, List.set_cons_zero, List.set_cons_succ]
                  refine wpAnyH_take (i := 18) (v := ?vn21) rfl (by kernel_rfl) (by kernel_rfl) (by kernel_rfl) (fun _ _ _ h => h) (Or.inl ⟨by rfl, ?yn21⟩) hHeld ?_
                  case yn21 => (intro w' hSw; (try dsimp only at hSw); go_simp); (try with_reducible rfl)
                  try simp only [Act.put, List.setIfInBounds_toArray, List.set_cons_zero, List.set_cons_succ]
                  have q6 := row_below q5 hB57
                  have hB06 := below_then hB05 hB05.size hB57
                  obtain ⟨f0, c0, f1, c1, f2, c2, rr, gg⟩ := put25 q6 (.string ⟨t.word.toArray⟩) (.slice A5 n5 c5) (.int .i64 (a.n : Int))
                  have hSZ := hSK.out w7 hB57
                  have hS9 := And.intro (gg.cell hSZ.1 (by intro e; injection e with e; have e' : b0 = w.heap.size := e; omega)) (gg.cell hSZ.2 (by intro e; injection e with e; have e' : b0 = w.heap.size := e; omega))
                  refine wpAnyH_ready (rs := [19]) (by kernel_rfl) (by simp) ?_
                  refine AllReadyH.cons rfl (fun Kc hKc => ?_) AllReadyH.nil
                  go_simp
                  refine hKc.out _ _ hS9 (fun hHeld => ?_)
                  clear hKc Kc
                  try simp only [Act.put, List.setIfInBounds_toArray, List.set_cons_zero, List.set_cons_succ]
                  refine wpAnyH_take (i := 20) (v := ?vn22) rfl (by kernel_rfl) (by kernel_rfl) (by kernel_rfl) (fun _ _ _ h => h) (Or.inl ⟨by rfl, ?yn22⟩) hHeld ?_
                  case yn22 => (intro w' hSw; (try dsimp only at hSw); go_simp); (try with_reducible rfl)
                  try simp only [Act.put, List.setIfInBounds_toArray, List.set_cons_zero, List.set_cons_succ]
                  try simp only [Act.put, List.getElem_toArray, List.getElem_cons_succ, List.getElem_cons_zero, List.setIfInBounds_toArray, List.set_cons_zero, List.set_cons_succ]
                  try simp only [Act.put, List.setIfInBounds_toArray, List.set_cons_zero, List.set_cons_succ]
                  refine wpAnyH_done (by kernel_rfl) ?_ _
                  go_wp2_with fail
                  refine bodyPost_ret (results_row_tmpQ (p := 2) (u := 3) (ty := 113) rfl _ _ w.heap.size 113 _ (0, 0) _ rfl rr Tryz.underlying113 rfl (by kernel_rfl)) rfl (ParsePost.of HPL.out ⟨hB06.grown gg hB06.size (fun r e => by injection e with e; omega), t.word, A5, n5, c5, (a.n : Int), true, rfl, ?_⟩)
                  have k := pm_gate (t := t) (w := w) (w2 := (((w7).setCell ⟨w.heap.size, 0, none⟩ (.string ⟨t.word.toArray⟩)).setCell ⟨w.heap.size, 1, none⟩ (.slice A5 n5 c5)).setCell ⟨w.heap.size, 2, none⟩ (.int .i64 (a.n : Int))) ha0 H61.out ha65 hB03.size HM5.out (fun v xs h => own_far (h.kept (grown_of_below hB57 none) (by cases v.ownBlock <;> simp)) gg (by omega))
                  rw [HKK.out, show (true && decide (kk ≠ 0)) = true by simp [HK0.out]] at k
                  exact k
              | false =>
                go_wp2_with fail
                refine wp_region_held_drew (S := (fun W => W.cell? ⟨b0, off + 6, none⟩ = some (.string ⟨t.word.toArray⟩) ∧ W.cell? ⟨b0, off + 1, none⟩ = some (.int .i64 (a.n : Int)))) (by kernel_rfl) (hSK.out _ hBd) (fun hHeld => ?_)
                generalize w5.drew = w6 at *
                have q6 := row_below q5 hBd
                have hB06 := below_then hB05 hB05.size hBd
                obtain ⟨f0, c0, f1, c1, f2, c2, rr, gg⟩ := put25 q6 (.string ⟨t.word.toArray⟩) (.slice A5 n5 c5) (.int .i64 (a.n : Int))
                have hSZ := hSK.out w6 hBd
                have hS9 := And.intro (gg.cell hSZ.1 (by intro e; injection e with e; have e' : b0 = w.heap.size := e; omega)) (gg.cell hSZ.2 (by intro e; injection e with e; have e' : b0 = w.heap.size := e; omega))
                refine wpAnyH_take (i := 0) (v := ?vn23) rfl (by kernel_rfl) (by kernel_rfl) (by kernel_rfl) (fun _ _ _ h => h) (Or.inl ⟨by rfl, ?yn23⟩) hHeld ?_
                case yn23 => (intro w' hSw; (try dsimp only at hSw); go_simp); (try with_reducible rfl)
                try simp only [Act.put, List.setIfInBounds_toArray, List.set_cons_zero, List.set_cons_succ]
                refine wpAnyH_take (i := 1) (v := ?vn24) rfl (by kernel_rfl) (by kernel_rfl) (by kernel_rfl) (fun _ _ _ h => h) (Or.inl ⟨by rfl, ?yn24⟩) hHeld ?_
                case yn24 => (intro w' hSw; (try dsimp only at hSw); go_simp); (try with_reducible rfl)
                try simp only [Act.put, List.setIfInBounds_toArray, List.set_cons_zero, List.set_cons_succ]
                refine wpAnyH_take (i := 2) (v := ?vn25) rfl (by kernel_rfl) (by kernel_rfl) (by kernel_rfl) (fun _ _ _ h => h) (Or.inl ⟨by rfl, ?yn25⟩) hHeld ?_
                case yn25 => (intro w' hSw; (try dsimp only at hSw); go_simp); (try with_reducible rfl)
                try simp only [Act.put, List.setIfInBounds_toArray, List.set_cons_zero, List.set_cons_succ]
                refine wpAnyH_take (i := 3) (v := ?vn26) rfl (by kernel_rfl) (by kernel_rfl) (by kernel_rfl) (fun _ _ _ h => h) (Or.inl ⟨by rfl, ?yn26⟩) hHeld ?_
                case yn26 => (intro w' hSw; (try dsimp only at hSw); go_simp); (try with_reducible rfl)
                try simp only [Act.put, List.setIfInBounds_toArray, List.set_cons_zero, List.set_cons_succ]
                refine wpAnyH_take (i := 4) (v := ?vn27) rfl (by kernel_rfl) (by kernel_rfl) (by kernel_rfl) (fun _ _ _ h => h) (Or.inl ⟨by rfl, ?yn27⟩) hHeld ?_
                case yn27 => (intro w' hSw; (try dsimp only at hSw); go_simp); (try with_reducible rfl)
                try simp only [Act.put, List.setIfInBounds_toArray, List.set_cons_zero, List.set_cons_succ]
                refine wpAnyH_take (i := 5) (v := ?vn28) rfl (by kernel_rfl) (by kernel_rfl) (by kernel_rfl) (fun _ _ _ h => h) (Or.inl ⟨by rfl, ?yn28⟩) hHeld ?_
                case yn28 => (intro w' hSw; (try dsimp only at hSw); go_simp); (try with_reducible rfl)
                try simp only [Act.put, List.setIfInBounds_toArray, List.set_cons_zero, List.set_cons_succ]
                refine wpAnyH_take (i := 6) (v := ?vn29) rfl (by kernel_rfl) (by kernel_rfl) (by kernel_rfl) (fun _ _ _ h => h) (Or.inl ⟨by rfl, ?yn29⟩) hHeld ?_
                case yn29 => (intro w' hSw; (try dsimp only at hSw); go_simp); (try with_reducible rfl)
                try simp only [Act.put, List.setIfInBounds_toArray, List.set_cons_zero, List.set_cons_succ]
                refine wpAnyH_take (i := 7) (v := ?vn30) rfl (by kernel_rfl) (by kernel_rfl) (by kernel_rfl) (fun _ _ _ h => h) (Or.inl ⟨by rfl, ?yn30⟩) hHeld ?_
                case yn30 => (intro w' hSw; (try dsimp only at hSw); go_simp); (try with_reducible rfl)
                try simp only [Act.put, List.setIfInBounds_toArray, List.set_cons_zero, List.set_cons_succ]
                refine wpAnyH_take (i := 8) (v := ?vn31) rfl (by kernel_rfl) (by kernel_rfl) (by kernel_rfl) (fun _ _ _ h => h) (Or.inl ⟨by rfl, ?yn31⟩) hHeld ?_
                case yn31 => (intro w' hSw; (try dsimp only at hSw); go_simp); (try with_reducible rfl)
                try simp only [Act.put, List.setIfInBounds_toArray, List.set_cons_zero, List.set_cons_succ]
                refine wpAnyH_take (i := 9) (v := ?vn32) rfl (by kernel_rfl) (by kernel_rfl) (by kernel_rfl) (fun _ _ _ h => h) (Or.inl ⟨by rfl, ?yn32⟩) hHeld ?_
                case yn32 => (intro w' hSw; (try dsimp only at hSw); go_simp); (try with_reducible rfl)
                try simp only [Act.put, List.setIfInBounds_toArray, List.set_cons_zero, List.set_cons_succ]
                refine wpAnyH_take (i := 10) (v := ?vn33) rfl (by kernel_rfl) (by kernel_rfl) (by kernel_rfl) (fun _ _ _ h => h) (Or.inl ⟨by rfl, ?yn33⟩) hHeld ?_
                case yn33 => (intro w' hSw; (try dsimp only at hSw); go_simp); (try with_reducible rfl)
                try simp only [Act.put, List.setIfInBounds_toArray, List.set_cons_zero, List.set_cons_succ]
                refine wpAnyH_take (i := 11) (v := ?vn34) rfl (by kernel_rfl) (by kernel_rfl) (by kernel_rfl) (fun _ _ _ h => h) (Or.inl ⟨by rfl, ?yn34⟩) hHeld ?_
                case yn34 => (intro w' hSw; (try dsimp only at hSw); go_simp); (try with_reducible rfl)
                try simp only [Act.put, List.setIfInBounds_toArray, List.set_cons_zero, List.set_cons_succ]
                refine wpAnyH_take (i := 12) (v := undef) rfl (by kernel_rfl) (by kernel_rfl) (by kernel_rfl) (fun _ _ _ h => h) (Or.inr ⟨?yg35, rfl⟩) hHeld ?_
                case yg35 => go_simp
                try simp only [Act.put, List.setIfInBounds_toArray, List.set_cons_zero, List.set_cons_succ]
                refine wpAnyH_take (i := 13) (v := undef) rfl (by kernel_rfl) (by kernel_rfl) (by kernel_rfl) (fun _ _ _ h => h) (Or.inr ⟨?yg36, rfl⟩) hHeld ?_
                case yg36 => go_simp
                try simp only [Act.put, List.setIfInBounds_toArray, List.set_cons_zero, List.set_cons_succ]
                refine wpAnyH_take (i := 14) (v := undef) rfl (by kernel_rfl) (by kernel_rfl) (by kernel_rfl) (fun _ _ _ h => h) (Or.inr ⟨?yg37, rfl⟩) hHeld ?_
                case yg37 => go_simp
                try simp only [Act.put, List.setIfInBounds_toArray, List.set_cons_zero, List.set_cons_succ]
                refine wpAnyH_take (i := 15) (v := undef) rfl (by kernel_rfl) (by kernel_rfl) (by kernel_rfl) (fun _ _ _ h => h) (Or.inr ⟨?yg38, rfl⟩) hHeld ?_
                case yg38 => go_simp
                try simp only [Act.put, List.setIfInBounds_toArray, List.set_cons_zero, List.set_cons_succ]
                refine wpAnyH_take (i := 16) (v := undef) rfl (by kernel_rfl) (by kernel_rfl) (by kernel_rfl) (fun _ _ _ h => h) (Or.inr ⟨?yg39, rfl⟩) hHeld ?_
                case yg39 => go_simp
                try simp only [Act.put, List.setIfInBounds_toArray, List.set_cons_zero, List.set_cons_succ]
                refine wpAnyH_take (i := 17) (v := undef) rfl (by kernel_rfl) (by kernel_rfl) (by kernel_rfl) (fun _ _ _ h => h) (Or.inr ⟨?yg40, rfl⟩) hHeld ?_
                case yg40 => go_simp
                try simp only [Act.put, List.setIfInBounds_toArray, List.set_cons_zero, List.set_cons_succ]
                refine wpAnyH_take (i := 18) (v := ?vn41) rfl (by kernel_rfl) (by kernel_rfl) (by kernel_rfl) (fun _ _ _ h => h) (Or.inl ⟨by rfl, ?yn41⟩) hHeld ?_
                case yn41 => (intro w' hSw; (try dsimp only at hSw); go_simp); (try with_reducible rfl)
                try simp only [Act.put, List.setIfInBounds_toArray, List.set_cons_zero, List.set_cons_succ]
                refine wpAnyH_ready (rs := [19]) (by kernel_rfl) (by simp) ?_
                refine AllReadyH.cons rfl (fun Kc hKc => ?_) AllReadyH.nil
                go_simp
                refine hKc.out _ _ hS9 (fun hHeld => ?_)
                clear hKc Kc
                try simp only [Act.put, List.setIfInBounds_toArray, List.set_cons_zero, List.set_cons_succ]
                refine wpAnyH_take (i := 20) (v := ?vn42) rfl (by kernel_rfl) (by kernel_rfl) (by kernel_rfl) (fun _ _ _ h => h) (Or.inl ⟨by rfl, ?yn42⟩) hHeld ?_
                case yn42 => (intro w' hSw; (try dsimp only at hSw); go_simp); (try with_reducible rfl)
                try simp only [Act.put, List.setIfInBounds_toArray, List.set_cons_zero, List.set_cons_succ]
                try simp only [Act.put, List.getElem_toArray, List.getElem_cons_succ, List.getElem_cons_zero, List.setIfInBounds_toArray, List.set_cons_zero, List.set_cons_succ]
                try simp only [Act.put, List.setIfInBounds_toArray, List.set_cons_zero, List.set_cons_succ]
                refine wpAnyH_done (by kernel_rfl) ?_ _
                go_wp2_with fail
                refine bodyPost_ret (results_row_tmpQ (p := 2) (u := 3) (ty := 113) rfl _ _ w.heap.size 113 _ (0, 0) _ rfl rr Tryz.underlying113 rfl (by kernel_rfl)) rfl (ParsePost.of HPL.out ⟨hB06.grown gg hB06.size (fun r e => by injection e with e; omega), t.word, A5, n5, c5, (a.n : Int), false, rfl, ?_⟩)
                have k := pm_gate (t := t) (w := w) (w2 := (((w6).setCell ⟨w.heap.size, 0, none⟩ (.string ⟨t.word.toArray⟩)).setCell ⟨w.heap.size, 1, none⟩ (.slice A5 n5 c5)).setCell ⟨w.heap.size, 2, none⟩ (.int .i64 (a.n : Int))) ha0 H61.out ha65 hB03.size HM5.out (fun v xs h => own_far (h.kept (grown_of_below hBd none) (by cases v.ownBlock <;> simp)) gg (by omega))
                exact k
            · obtain rfl : c = 3 := by omega
              obtain rfl : n = 3 := by omega
              obtain rfl : q = [] := List.eq_nil_of_length_eq_zero (by have := HN.out; simp only [List.length_cons] at this; omega)
              go_wp2_with fail
              refine CB.mono ?_
              rintro e w3 ⟨rfl, hB3⟩
              have hB03 := below_then hB02 hB02.size hB3
              have r3 := row_below r2 hB3
              have hT3 := hTk.keep (keeps_below hB3)
              have hT33 : ToksAt w3 (.slice (some ⟨b0, off, none⟩) 0 0) [] := ⟨_, 0, rfl, Nat.le_refl _, by omega, fun hp => by simp at hp⟩
              have CL := litG (signs := true) hT33 (by omega) (fun t' ht => by cases ht)
              have p3 := keeps_below hB3 _ _ p1
              obtain ⟨bb, oo, e, u0, -, -⟩ := hT3.at_ 2 t rfl
              injection e with e
              injection e with e1 e2
              subst e1; subst e2
              simp only [show 2 * 3 = 6 from rfl] at u0
              unfold sv at u0
              clear CB s0 s1 s2 p1 hTk r2 hT3
              go_wp2_with fail
              refine CL.mono ?_
              rintro e w5 ⟨A5, n5, c5, fine, rfl, hB5, hM⟩
              have hB05 := below_then hB03 hB03.size hB5
              have q5 := row_below r3 hB5
              have HM5 := hid hM
              have hz3s : w.heap.size < w3.heap.size := row_lt r3
              have hSK : Hid (∀ W, Below w5.heap.size w5 W → (fun W => W.cell? ⟨b0, off + 6, none⟩ = some (.string ⟨t.word.toArray⟩) ∧ W.cell? ⟨b0, off + 1, none⟩ = some (.int .i64 (a.n : Int))) W) := hid (fun W hW => ⟨keeps_below hW _ _ (keeps_below hB5 _ _ u0), keeps_below hW _ _ (keeps_below hB5 _ _ p3)⟩)
              have hBd : Below w5.heap.size w5 w5.drew := (Below.refl _ w5).drew
              clear hM CL u0 p3 hT33
              cases fine with
              | true =>
                go_wp2_with fail
                refine wp_region_held_drew (S := (fun W => W.cell? ⟨b0, off + 6, none⟩ = some (.string ⟨t.word.toArray⟩) ∧ W.cell? ⟨b0, off + 1, none⟩ = some (.int .i64 (a.n : Int)))) (by kernel_rfl) (hSK.out _ hBd) (fun hHeld => ?_)
                generalize w5.drew = w6 at *
                refine wpAnyH_take (i := 0) (v := ?vn43) rfl (by kernel_rfl) (by kernel_rfl) (by kernel_rfl) (fun _ _ _ h => h) (Or.inl ⟨by rfl, ?yn43⟩) hHeld ?_
                case yn43 => (intro w' hSw; (try dsimp only at hSw); go_simp); (try with_reducible rfl)
                try simp only [Act.put, List.setIfInBounds_toArray, List.set_cons_zero, List.set_cons_succ]
                refine wpAnyH_take (i := 1) (v := ?vn44) rfl (by kernel_rfl) (by kernel_rfl) (by kernel_rfl) (fun _ _ _ h => h) (Or.inl ⟨by rfl, ?yn44⟩) hHeld ?_
                case yn44 => (intro w' hSw; (try dsimp only at hSw); go_simp); (try with_reducible rfl)
                try simp only [Act.put, List.setIfInBounds_toArray, List.set_cons_zero, List.set_cons_succ]
                refine wpAnyH_take (i := 2) (v := ?vn45) rfl (by kernel_rfl) (by kernel_rfl) (by kernel_rfl) (fun _ _ _ h => h) (Or.inl ⟨by rfl, ?yn45⟩) hHeld ?_
                case yn45 => (intro w' hSw; (try dsimp only at hSw); go_simp); (try with_reducible rfl)
                try simp only [Act.put, List.setIfInBounds_toArray, List.set_cons_zero, List.set_cons_succ]
                refine wpAnyH_take (i := 3) (v := ?vn46) rfl (by kernel_rfl) (by kernel_rfl) (by kernel_rfl) (fun _ _ _ h => h) (Or.inl ⟨by rfl, ?yn46⟩) hHeld ?_
                case yn46 => (intro w' hSw; (try dsimp only at hSw); go_simp); (try with_reducible rfl)
                try simp only [Act.put, List.setIfInBounds_toArray, List.set_cons_zero, List.set_cons_succ]
                refine wpAnyH_take (i := 4) (v := ?vn47) rfl (by kernel_rfl) (by kernel_rfl) (by kernel_rfl) (fun _ _ _ h => h) (Or.inl ⟨by rfl, ?yn47⟩) hHeld ?_
                case yn47 => (intro w' hSw; (try dsimp only at hSw); go_simp); (try with_reducible rfl)
                try simp only [Act.put, List.setIfInBounds_toArray, List.set_cons_zero, List.set_cons_succ]
                refine wpAnyH_take (i := 5) (v := ?vn48) rfl (by kernel_rfl) (by kernel_rfl) (by kernel_rfl) (fun _ _ _ h => h) (Or.inl ⟨by rfl, ?yn48⟩) hHeld ?_
                case yn48 => (intro w' hSw; (try dsimp only at hSw); go_simp); (try with_reducible rfl)
                try simp only [Act.put, List.setIfInBounds_toArray, List.set_cons_zero, List.set_cons_succ]
                refine wpAnyH_take (i := 6) (v := ?vn49) rfl (by kernel_rfl) (by kernel_rfl) (by kernel_rfl) (fun _ _ _ h => h) (Or.inl ⟨by rfl, ?yn49⟩) hHeld ?_
                case yn49 => (intro w' hSw; (try dsimp only at hSw); go_simp); (try with_reducible rfl)
                try simp only [Act.put, List.setIfInBounds_toArray, List.set_cons_zero, List.set_cons_succ]
                refine wpAnyH_take (i := 7) (v := ?vn50) rfl (by kernel_rfl) (by kernel_rfl) (by kernel_rfl) (fun _ _ _ h => h) (Or.inl ⟨by rfl, ?yn50⟩) hHeld ?_
                case yn50 => (intro w' hSw; (try dsimp only at hSw); go_simp); (try with_reducible rfl)
                try simp only [Act.put, List.setIfInBounds_toArray, List.set_cons_zero, List.set_cons_succ]
                refine wpAnyH_take (i := 8) (v := ?vn51) rfl (by kernel_rfl) (by kernel_rfl) (by kernel_rfl) (fun _ _ _ h => h) (Or.inl ⟨by rfl, ?yn51⟩) hHeld ?_
                case yn51 => (intro w' hSw; (try dsimp only at hSw); go_simp); (try with_reducible rfl)
                try simp only [Act.put, List.setIfInBounds_toArray, List.set_cons_zero, List.set_cons_succ]
                refine wpAnyH_take (i := 9) (v := ?vn52) rfl (by kernel_rfl) (by kernel_rfl) (by kernel_rfl) (fun _ _ _ h => h) (Or.inl ⟨by rfl, ?yn52⟩) hHeld ?_
                case yn52 => (intro w' hSw; (try dsimp only at hSw); go_simp); (try with_reducible rfl)
                try simp only [Act.put, List.setIfInBounds_toArray, List.set_cons_zero, List.set_cons_succ]
                refine wpAnyH_take (i := 10) (v := ?vn53) rfl (by kernel_rfl) (by kernel_rfl) (by kernel_rfl) (fun _ _ _ h => h) (Or.inl ⟨by rfl, ?yn53⟩) hHeld ?_
                case yn53 => (intro w' hSw; (try dsimp only at hSw); go_simp); (try with_reducible rfl)
                try simp only [Act.put, List.setIfInBounds_toArray, List.set_cons_zero, List.set_cons_succ]
                refine wpAnyH_take (i := 11) (v := ?vn54) rfl (by kernel_rfl) (by kernel_rfl) (by kernel_rfl) (fun _ _ _ h => h) (Or.inl ⟨by rfl, ?yn54⟩) hHeld ?_
                case yn54 => (intro w' hSw; (try dsimp only at hSw); go_simp); (try with_reducible rfl)
                try simp only [Act.put, List.setIfInBounds_toArray, List.set_cons_zero, List.set_cons_succ]
                refine wpAnyH_take (i := 12) (v := ?vn55) rfl (by kernel_rfl) (by kernel_rfl) (by kernel_rfl) (fun _ _ _ h => h) (Or.inl ⟨?yg55, ?yn55⟩) hHeld ?_
                case yg55 => go_simp
                case yn55 => (intro w' hSw; (try dsimp only at hSw); go_simp); (try with_reducible rfl)
                try simp only [Act.put, List.setIfInBounds_toArray, List.set_cons_zero, List.set_cons_succ]
                refine wpAnyH_take (i := 13) (v := ?vn56) rfl (by kernel_rfl) (by kernel_rfl) (by kernel_rfl) (fun _ _ _ h => h) (Or.inl ⟨?yg56, ?yn56⟩) hHeld ?_
                case yg56 => go_simp
                case yn56 => (intro w' hSw; (try dsimp only at hSw); go_simp); (try with_reducible rfl)
                try simp only [Act.put, List.setIfInBounds_toArray, List.set_cons_zero, List.set_cons_succ]
                refine wpAnyH_take (i := 14) (v := ?vn57) rfl (by kernel_rfl) (by kernel_rfl) (by kernel_rfl) (fun _ _ _ h => h) (Or.inl ⟨?yg57, ?yn57⟩) hHeld ?_
                case yg57 => go_simp
                case yn57 => (intro w' hSw; (try dsimp only at hSw); go_simp); (try with_reducible rfl)
                try simp only [Act.put, List.setIfInBounds_toArray, List.set_cons_zero, List.set_cons_succ]
                refine wpAnyH_take (i := 15) (v := ?vn58) rfl (by kernel_rfl) (by kernel_rfl) (by kernel_rfl) (fun _ _ _ h => h) (Or.inl ⟨?yg58, ?yn58⟩) hHeld ?_
                case yg58 => go_simp
                case yn58 => (intro w' hSw; (try dsimp only at hSw); go_simp); (try with_reducible rfl)
                try simp only [Act.put, List.setIfInBounds_toArray, List.set_cons_zero, List.set_cons_succ]
                refine wpAnyH_ready (rs := [16]) (by kernel_rfl) (by simp) ?_
                refine AllReadyH.cons rfl (fun Kc hKc => ?_) AllReadyH.nil
                go_simp
                go_at_call 108
                refine (kind_any t.word w6).mono ?_
                rintro e w7 ⟨rfl, hB7⟩
                have hB57 := below_then hBd hBd.size hB7
                go_wp2_with fail
                refine hKc.out _ _ (hSK.out w7 hB57) (fun hHeld => ?_)
                clear hKc Kc
                try simp only [Act.put, List.setIfInBounds_toArray, List.set_cons_zero, List.set_cons_succ]
                generalize hkk : kindP t.word = kk
                have HKK := hid hkk
                clear hkk
                by_cases hk0 : kk = 0
                · have hzk : ((kk : Int) != 0) = false := by rw [hk0]; rfl
                  have HK0 := hid hk0
                  clear hk0
                  refine wpAnyH_take (i := 17) (v := ?vn59) rfl (by kernel_rfl) (by kernel_rfl) (by kernel_rfl) (fun _ _ _ h => h) (Or.inl ⟨?yg59, ?yn59⟩) hHeld ?_
                  case yg59 => go_simp
                  case yn59 => (intro w' hSw; (try dsimp only at hSw); go_simp); (try with_reducible rfl)
                  try simp only [Act.put, List.setIfInBounds_toArray, List.set_cons_zero, List.set_cons_succ]
                  refine wpAnyH_take (i := 18) (v := ?vn60) rfl (by kernel_rfl) (by kernel_rfl) (by kernel_rfl) (fun _ _ _ h => h) (Or.inl ⟨by rfl, ?yn60⟩) hHeld ?_
                  case yn60 => (intro w' hSw; (try dsimp only at hSw); go_simp); (try with_reducible rfl)
                  try simp only [Act.put, List.setIfInBounds_toArray, List.set_cons_zero, List.set_cons_succ]
                  have q6 := row_below q5 hB57
                  have hB06 := below_then hB05 hB05.size hB57
                  obtain ⟨f0, c0, f1, c1, f2, c2, rr, gg⟩ := put25 q6 (.string ⟨t.word.toArray⟩) (.slice A5 n5 c5) (.int .i64 (a.n : Int))
                  have hSZ := hSK.out w7 hB57
                  have hS9 := And.intro (gg.cell hSZ.1 (by intro e; injection e with e; have e' : b0 = w.heap.size := e; omega)) (gg.cell hSZ.2 (by intro e; injection e with e; have e' : b0 = w.heap.size := e; omega))
                  refine wpAnyH_ready (rs := [19]) (by kernel_rfl) (by simp) ?_
                  refine AllReadyH.cons rfl (fun Kc hKc => ?_) AllReadyH.nil
                  go_simp
                  refine hKc.out _ _ hS9 (fun hHeld => ?_)
                  clear hKc Kc
                  try simp only [Act.put, List.setIfInBounds_toArray, List.set_cons_zero, List.set_cons_succ]
                  refine wpAnyH_take (i := 20) (v := ?vn61) rfl (by kernel_rfl) (by kernel_rfl) (by kernel_rfl) (fun _ _ _ h => h) (Or.inl ⟨by rfl, ?yn61⟩) hHeld ?_
                  case yn61 => (intro w' hSw; (try dsimp only at hSw); go_simp); (try with_reducible rfl)
                  try simp only [Act.put, List.setIfInBounds_toArray, List.set_cons_zero, List.set_cons_succ]
                  try simp only [Act.put, List.getElem_toArray, List.getElem_cons_succ, List.getElem_cons_zero, List.setIfInBounds_toArray, List.set_cons_zero, List.set_cons_succ]
                  try simp only [Act.put, List.setIfInBounds_toArray, List.set_cons_zero, List.set_cons_succ]
                  refine wpAnyH_done (by kernel_rfl) ?_ _
                  go_wp2_with fail
                  refine bodyPost_ret (results_row_tmpQ (p := 2) (u := 3) (ty := 113) rfl _ _ w.heap.size 113 _ (0, 0) _ rfl rr Tryz.underlying113 rfl (by kernel_rfl)) rfl (ParsePost.of HPL.out ⟨hB06.grown gg hB06.size (fun r e => by injection e with e; omega), t.word, A5, n5, c5, (a.n : Int), false, rfl, ?_⟩)
                  have k := pm_gate (t := t) (w := w) (w2 := (((w7).setCell ⟨w.heap.size, 0, none⟩ (.string ⟨t.word.toArray⟩)).setCell ⟨w.heap.size, 1, none⟩ (.slice A5 n5 c5)).setCell ⟨w.heap.size, 2, none⟩ (.int .i64 (a.n : Int))) ha0 H61.out ha65 hB03.size HM5.out (fun v xs h => own_far (h.kept (grown_of_below hB57 none) (by cases v.ownBlock <;> simp)) gg (by omega))
                  rw [HKK.out, HK0.out] at k
                  exact k
                · have hzk : ((kk : Int) != 0) = true := bne_iff_ne.2 (by omega)
                  have HK0 := hid hk0
                  clear hk0
                  refine wpAnyH_take (i := 17) (v := ?vn62) rfl (by kernel_rfl) (by kernel_rfl) (by kernel_rfl) (fun _ _ _ h => h) (Or.inl ⟨?yg62, ?yn62⟩) hHeld ?_
                  case yg62 => go_simp
                  case yn62 => (intro w' hSw; (try dsimp only at hSw); go_simp); (try with_reducible rfl)
                  try simp only [Act.put, List.setIfInBounds_toArray, List.set_cons_zero, List.set_cons_succ]
                  refine wpAnyH_take (i := 18) (v := ?vn63) rfl (by kernel_rfl) (by kernel_rfl) (by kernel_rfl) (fun _ _ _ h => h) (Or.inl ⟨by rfl, ?yn63⟩) hHeld ?_
                  case yn63 => (intro w' hSw; (try dsimp only at hSw); go_simp); (try with_reducible rfl)
                  try simp only [Act.put, List.setIfInBounds_toArray, List.set_cons_zero, List.set_cons_succ]
                  have q6 := row_below q5 hB57
                  have hB06 := below_then hB05 hB05.size hB57
                  obtain ⟨f0, c0, f1, c1, f2, c2, rr, gg⟩ := put25 q6 (.string ⟨t.word.toArray⟩) (.slice A5 n5 c5) (.int .i64 (a.n : Int))
                  have hSZ := hSK.out w7 hB57
                  have hS9 := And.intro (gg.cell hSZ.1 (by intro e; injection e with e; have e' : b0 = w.heap.size := e; omega)) (gg.cell hSZ.2 (by intro e; injection e with e; have e' : b0 = w.heap.size := e; omega))
                  refine wpAnyH_ready (rs := [19]) (by kernel_rfl) (by simp) ?_
                  refine AllReadyH.cons rfl (fun Kc hKc => ?_) AllReadyH.nil
                  go_simp
                  refine hKc.out _ _ hS9 (fun hHeld => ?_)
                  clear hKc Kc
                  try simp only [Act.put, List.setIfInBounds_toArray, List.set_cons_zero, List.set_cons_succ]
                  refine wpAnyH_take (i := 20) (v := ?vn64) rfl (by kernel_rfl) (by kernel_rfl) (by kernel_rfl) (fun _ _ _ h => h) (Or.inl ⟨by rfl, ?yn64⟩) hHeld ?_
                  case yn64 => (intro w' hSw; (try dsimp only at hSw); go_simp); (try with_reducible rfl)
                  try simp only [Act.put, List.setIfInBounds_toArray, List.set_cons_zero, List.set_cons_succ]
                  try simp only [Act.put, List.getElem_toArray, List.getElem_cons_succ, List.getElem_cons_zero, List.setIfInBounds_toArray, List.set_cons_zero, List.set_cons_succ]
                  try simp only [Act.put, List.setIfInBounds_toArray, List.set_cons_zero, List.set_cons_succ]
                  refine wpAnyH_done (by kernel_rfl) ?_ _
                  go_wp2_with fail
                  refine bodyPost_ret (results_row_tmpQ (p := 2) (u := 3) (ty := 113) rfl _ _ w.heap.size 113 _ (0, 0) _ rfl rr Tryz.underlying113 rfl (by kernel_rfl)) rfl (ParsePost.of HPL.out ⟨hB06.grown gg hB06.size (fun r e => by injection e with e; omega), t.word, A5, n5, c5, (a.n : Int), true, rfl, ?_⟩)
                  have k := pm_gate (t := t) (w := w) (w2 := (((w7).setCell ⟨w.heap.size, 0, none⟩ (.string ⟨t.word.toArray⟩)).setCell ⟨w.heap.size, 1, none⟩ (.slice A5 n5 c5)).setCell ⟨w.heap.size, 2, none⟩ (.int .i64 (a.n : Int))) ha0 H61.out ha65 hB03.size HM5.out (fun v xs h => own_far (h.kept (grown_of_below hB57 none) (by cases v.ownBlock <;> simp)) gg (by omega))
                  rw [HKK.out, show (true && decide (kk ≠ 0)) = true by simp [HK0.out]] at k
                  exact k
              | false =>
                go_wp2_with fail
                refine wp_region_held_drew (S := (fun W => W.cell? ⟨b0, off + 6, none⟩ = some (.string ⟨t.word.toArray⟩) ∧ W.cell? ⟨b0, off + 1, none⟩ = some (.int .i64 (a.n : Int)))) (by kernel_rfl) (hSK.out _ hBd) (fun hHeld => ?_)
                generalize w5.drew = w6 at *
                have q6 := row_below q5 hBd
                have hB06 := below_then hB05 hB05.size hBd
                obtain ⟨f0, c0, f1, c1, f2, c2, rr, gg⟩ := put25 q6 (.string ⟨t.word.toArray⟩) (.slice A5 n5 c5) (.int .i64 (a.n : Int))
                have hSZ := hSK.out w6 hBd
                have hS9 := And.intro (gg.cell hSZ.1 (by intro e; injection e with e; have e' : b0 = w.heap.size := e; omega)) (gg.cell hSZ.2 (by intro e; injection e with e; have e' : b0 = w.heap.size := e; omega))
                refine wpAnyH_take (i := 0) (v := ?vn65) rfl (by kernel_rfl) (by kernel_rfl) (by kernel_rfl) (fun _ _ _ h => h) (Or.inl ⟨by rfl, ?yn65⟩) hHeld ?_
                case yn65 => (intro w' hSw; (try dsimp only at hSw); go_simp); (try with_reducible rfl)
                try simp only [Act.put, List.setIfInBounds_toArray, List.set_cons_zero, List.set_cons_succ]
                refine wpAnyH_take (i := 1) (v := ?vn66) rfl (by kernel_rfl) (by kernel_rfl) (by kernel_rfl) (fun _ _ _ h => h) (Or.inl ⟨by rfl, ?yn66⟩) hHeld ?_
                case yn66 => (intro w' hSw; (try dsimp only at hSw); go_simp); (try with_reducible rfl)
                try simp only [Act.put, List.setIfInBounds_toArray, List.set_cons_zero, List.set_cons_succ]
                refine wpAnyH_take (i := 2) (v := ?vn67) rfl (by kernel_rfl) (by kernel_rfl) (by kernel_rfl) (fun _ _ _ h => h) (Or.inl ⟨by rfl, ?yn67⟩) hHeld ?_
                case yn67 => (intro w' hSw; (try dsimp only at hSw); go_simp); (try with_reducible rfl)
                try simp only [Act.put, List.setIfInBounds_toArray, List.set_cons_zero, List.set_cons_succ]
                refine wpAnyH_take (i := 3) (v := ?vn68) rfl (by kernel_rfl) (by kernel_rfl) (by kernel_rfl) (fun _ _ _ h => h) (Or.inl ⟨by rfl, ?yn68⟩) hHeld ?_
                case yn68 => (intro w' hSw; (try dsimp only at hSw); go_simp); (try with_reducible rfl)
                try simp only [Act.put, List.setIfInBounds_toArray, List.set_cons_zero, List.set_cons_succ]
                refine wpAnyH_take (i := 4) (v := ?vn69) rfl (by kernel_rfl) (by kernel_rfl) (by kernel_rfl) (fun _ _ _ h => h) (Or.inl ⟨by rfl, ?yn69⟩) hHeld ?_
                case yn69 => (intro w' hSw; (try dsimp only at hSw); go_simp); (try with_reducible rfl)
                try simp only [Act.put, List.setIfInBounds_toArray, List.set_cons_zero, List.set_cons_succ]
                refine wpAnyH_take (i := 5) (v := ?vn70) rfl (by kernel_rfl) (by kernel_rfl) (by kernel_rfl) (fun _ _ _ h => h) (Or.inl ⟨by rfl, ?yn70⟩) hHeld ?_
                case yn70 => (intro w' hSw; (try dsimp only at hSw); go_simp); (try with_reducible rfl)
                try simp only [Act.put, List.setIfInBounds_toArray, List.set_cons_zero, List.set_cons_succ]
                refine wpAnyH_take (i := 6) (v := ?vn71) rfl (by kernel_rfl) (by kernel_rfl) (by kernel_rfl) (fun _ _ _ h => h) (Or.inl ⟨by rfl, ?yn71⟩) hHeld ?_
                case yn71 => (intro w' hSw; (try dsimp only at hSw); go_simp); (try with_reducible rfl)
                try simp only [Act.put, List.setIfInBounds_toArray, List.set_cons_zero, List.set_cons_succ]
                refine wpAnyH_take (i := 7) (v := ?vn72) rfl (by kernel_rfl) (by kernel_rfl) (by kernel_rfl) (fun _ _ _ h => h) (Or.inl ⟨by rfl, ?yn72⟩) hHeld ?_
                case yn72 => (intro w' hSw; (try dsimp only at hSw); go_simp); (try with_reducible rfl)
                try simp only [Act.put, List.setIfInBounds_toArray, List.set_cons_zero, List.set_cons_succ]
                refine wpAnyH_take (i := 8) (v := ?vn73) rfl (by kernel_rfl) (by kernel_rfl) (by kernel_rfl) (fun _ _ _ h => h) (Or.inl ⟨by rfl, ?yn73⟩) hHeld ?_
                case yn73 => (intro w' hSw; (try dsimp only at hSw); go_simp); (try with_reducible rfl)
                try simp only [Act.put, List.setIfInBounds_toArray, List.set_cons_zero, List.set_cons_succ]
                refine wpAnyH_take (i := 9) (v := ?vn74) rfl (by kernel_rfl) (by kernel_rfl) (by kernel_rfl) (fun _ _ _ h => h) (Or.inl ⟨by rfl, ?yn74⟩) hHeld ?_
                case yn74 => (intro w' hSw; (try dsimp only at hSw); go_simp); (try with_reducible rfl)
                try simp only [Act.put, List.setIfInBounds_toArray, List.set_cons_zero, List.set_cons_succ]
                refine wpAnyH_take (i := 10) (v := ?vn75) rfl (by kernel_rfl) (by kernel_rfl) (by kernel_rfl) (fun _ _ _ h => h) (Or.inl ⟨by rfl, ?yn75⟩) hHeld ?_
                case yn75 => (intro w' hSw; (try dsimp only at hSw); go_simp); (try with_reducible rfl)
                try simp only [Act.put, List.setIfInBounds_toArray, List.set_cons_zero, List.set_cons_succ]
                refine wpAnyH_take (i := 11) (v := ?vn76) rfl (by kernel_rfl) (by kernel_rfl) (by kernel_rfl) (fun _ _ _ h => h) (Or.inl ⟨by rfl, ?yn76⟩) hHeld ?_
                case yn76 => (intro w' hSw; (try dsimp only at hSw); go_simp); (try with_reducible rfl)
                try simp only [Act.put, List.setIfInBounds_toArray, List.set_cons_zero, List.set_cons_succ]
                refine wpAnyH_take (i := 12) (v := undef) rfl (by kernel_rfl) (by kernel_rfl) (by kernel_rfl) (fun _ _ _ h => h) (Or.inr ⟨?yg77, rfl⟩) hHeld ?_
                case yg77 => go_simp
                try simp only [Act.put, List.setIfInBounds_toArray, List.set_cons_zero, List.set_cons_succ]
                refine wpAnyH_take (i := 13) (v := undef) rfl (by kernel_rfl) (by kernel_rfl) (by kernel_rfl) (fun _ _ _ h => h) (Or.inr ⟨?yg78, rfl⟩) hHeld ?_
                case yg78 => go_simp
                try simp only [Act.put, List.setIfInBounds_toArray, List.set_cons_zero, List.set_cons_succ]
                refine wpAnyH_take (i := 14) (v := undef) rfl (by kernel_rfl) (by kernel_rfl) (by kernel_rfl) (fun _ _ _ h => h) (Or.inr ⟨?yg79, rfl⟩) hHeld ?_
                case yg79 => go_simp
                try simp only [Act.put, List.setIfInBounds_toArray, List.set_cons_zero, List.set_cons_succ]
                refine wpAnyH_take (i := 15) (v := undef) rfl (by kernel_rfl) (by kernel_rfl) (by kernel_rfl) (fun _ _ _ h => h) (Or.inr ⟨?yg80, rfl⟩) hHeld ?_
                case yg80 => go_simp
                try simp only [Act.put, List.setIfInBounds_toArray, List.set_cons_zero, List.set_cons_succ]
                refine wpAnyH_take (i := 16) (v := undef) rfl (by kernel_rfl) (by kernel_rfl) (by kernel_rfl) (fun _ _ _ h => h) (Or.inr ⟨?yg81, rfl⟩) hHeld ?_
                case yg81 => go_simp
                try simp only [Act.put, List.setIfInBounds_toArray, List.set_cons_zero, List.set_cons_succ]
                refine wpAnyH_take (i := 17) (v := undef) rfl (by kernel_rfl) (by kernel_rfl) (by kernel_rfl) (fun _ _ _ h => h) (Or.inr ⟨?yg82, rfl⟩) hHeld ?_
                case yg82 => go_simp
                try simp only [Act.put, List.setIfInBounds_toArray, List.set_cons_zero, List.set_cons_succ]
                refine wpAnyH_take (i := 18) (v := ?vn83) rfl (by kernel_rfl) (by kernel_rfl) (by kernel_rfl) (fun _ _ _ h => h) (Or.inl ⟨by rfl, ?yn83⟩) hHeld ?_
                case yn83 => (intro w' hSw; (try dsimp only at hSw); go_simp); (try with_reducible rfl)
                try simp only [Act.put, List.setIfInBounds_toArray, List.set_cons_zero, List.set_cons_succ]
                refine wpAnyH_ready (rs := [19]) (by kernel_rfl) (by simp) ?_
                refine AllReadyH.cons rfl (fun Kc hKc => ?_) AllReadyH.nil
                go_simp
                refine hKc.out _ _ hS9 (fun hHeld => ?_)
                clear hKc Kc
                try simp only [Act.put, List.setIfInBounds_toArray, List.set_cons_zero, List.set_cons_succ]
                refine wpAnyH_take (i := 20) (v := ?vn84) rfl (by kernel_rfl) (by kernel_rfl) (by kernel_rfl) (fun _ _ _ h => h) (Or.inl ⟨by rfl, ?yn84⟩) hHeld ?_
                case yn84 => (intro w' hSw; (try dsimp only at hSw); go_simp); (try with_reducible rfl)
                try simp only [Act.put, List.setIfInBounds_toArray, List.set_cons_zero, List.set_cons_succ]
                try simp only [Act.put, List.getElem_toArray, List.getElem_cons_succ, List.getElem_cons_zero, List.setIfInBounds_toArray, List.set_cons_zero, List.set_cons_succ]
                try simp only [Act.put, List.setIfInBounds_toArray, List.set_cons_zero, List.set_cons_succ]
                refine wpAnyH_done (by kernel_rfl) ?_ _
                go_wp2_with fail
                refine bodyPost_ret (results_row_tmpQ (p := 2) (u := 3) (ty := 113) rfl _ _ w.heap.size 113 _ (0, 0) _ rfl rr Tryz.underlying113 rfl (by kernel_rfl)) rfl (ParsePost.of HPL.out ⟨hB06.grown gg hB06.size (fun r e => by injection e with e; omega), t.word, A5, n5, c5, (a.n : Int), false, rfl, ?_⟩)
                have k := pm_gate (t := t) (w := w) (w2 := (((w6).setCell ⟨w.heap.size, 0, none⟩ (.string ⟨t.word.toArray⟩)).setCell ⟨w.heap.size, 1, none⟩ (.slice A5 n5 c5)).setCell ⟨w.heap.size, 2, none⟩ (.int .i64 (a.n : Int))) ha0 H61.out ha65 hB03.size HM5.out (fun v xs h => own_far (h.kept (grown_of_below hBd none) (by cases v.ownBlock <;> simp)) gg (by omega))
                exact k
          · have HNG : Hid (¬ (0 < a.n ∧ b.byte = 61 ∧ r ≠ [])) := hid (fun h => h.2.2 (List.eq_nil_of_length_eq_zero (by have := HN.out; simp at this; omega)))
            have hz3 : decide ((2 : Int) < (n : Int)) = false := decide_eq_false (by omega)
            go_wp2_with fail
            refine CB.mono ?_
            rintro e w3 ⟨rfl, hB3⟩
            have hB03 := below_then hB02 hB02.size hB3
            have r3 := row_below r2 hB3
            have hT3 := hTk.keep (keeps_below hB3)
            clear CB s0 s1 s2 p1 hTk r2
            have hT1 := toks_drop 1 hT3 (by omega)
            simp only [Nat.one_mul, List.drop_succ_cons, List.drop_zero] at hT1
            have CL : ∀ sg, Calls Tryz.prog 107 #[.slice (some ⟨b0, off + 3, none⟩) (n - 1) (c - 1), .bool sg] w3 _ := fun sg => litG (signs := sg) hT1 (by omega) (fun t ht => HSM.out t (by simp only [List.mem_cons] at ht ⊢; exact .inr ht))
            have hsz := hB03.size
            have hT0 := hT3.at_ 0 a rfl
            obtain ⟨bb, oo, e, y0, -, -⟩ := hT0
            injection e with e
            injection e with e1 e2
            subst e1; subst e2
            simp only [Nat.zero_mul, Nat.add_zero] at y0
            unfold sv at y0
            by_cases hw : a.word = wFree
            · rw [hw] at y0
              unfold wFree at y0
              have HW := hid hw
              have CF := CL false
              clear hw CL
              go_wp2_with fail
              refine CF.mono ?_
              rintro e w5 ⟨A5, n5, c5, fine, rfl, hB5, hM⟩
              have hB05 := below_then hB03 hsz hB5
              have q5 := row_below r3 hB5
              have HM5 := hid hM
              have HPM := hid (fun (w' : World) (h : LitM w3 w' (literalsT (b :: r) false) A5 n5 c5 fine) => pm_block (w := w) HNG.out (.inl HW.out) hsz h)
              rw [HW.out] at HPM
              clear hM y0 hT1 CF
              obtain ⟨f0, c0, f1, c1, f2, c2, rr, gg⟩ := put25 q5 (.string ⟨([102, 114, 101, 101] : Bs).toArray⟩) (.slice A5 n5 c5) (.int .i64 0)
              go_wp2_with fail
              exact bodyPost_ret (results_row_tmpQ (p := 2) (u := 3) (ty := 113) rfl _ _ w.heap.size 113 _ (0, 0) _ rfl rr Tryz.underlying113 rfl (by kernel_rfl)) rfl (ParsePost.of HPL.out ⟨hB05.grown gg hB05.size (fun r e => by injection e with e; omega), [102, 114, 101, 101], A5, n5, c5, 0, fine, rfl, HPM.out _ (litM_put HM5.out gg (by have := row_lt r3; omega))⟩)
            by_cases hw' : a.word = wExists
            · rw [hw'] at y0
              unfold wExists at y0
              have HW := hid hw'
              have CF := CL false
              clear hw' CL
              go_wp2_with fail
              refine CF.mono ?_
              rintro e w5 ⟨A5, n5, c5, fine, rfl, hB5, hM⟩
              have hB05 := below_then hB03 hsz hB5
              have q5 := row_below r3 hB5
              have HM5 := hid hM
              have HPM := hid (fun (w' : World) (h : LitM w3 w' (literalsT (b :: r) false) A5 n5 c5 fine) => pm_block (w := w) HNG.out (.inr <| .inl HW.out) hsz h)
              rw [HW.out] at HPM
              clear hM y0 hT1 CF
              obtain ⟨f0, c0, f1, c1, f2, c2, rr, gg⟩ := put25 q5 (.string ⟨([101, 120, 105, 115, 116, 115] : Bs).toArray⟩) (.slice A5 n5 c5) (.int .i64 0)
              go_wp2_with fail
              exact bodyPost_ret (results_row_tmpQ (p := 2) (u := 3) (ty := 113) rfl _ _ w.heap.size 113 _ (0, 0) _ rfl rr Tryz.underlying113 rfl (by kernel_rfl)) rfl (ParsePost.of HPL.out ⟨hB05.grown gg hB05.size (fun r e => by injection e with e; omega), [101, 120, 105, 115, 116, 115], A5, n5, c5, 0, fine, rfl, HPM.out _ (litM_put HM5.out gg (by have := row_lt r3; omega))⟩)
            by_cases hw'' : a.word = wForall
            · rw [hw''] at y0
              unfold wForall at y0
              have HW := hid hw''
              have CF := CL false
              clear hw'' CL
              go_wp2_with fail
              refine CF.mono ?_
              rintro e w5 ⟨A5, n5, c5, fine, rfl, hB5, hM⟩
              have hB05 := below_then hB03 hsz hB5
              have q5 := row_below r3 hB5
              have HM5 := hid hM
              have HPM := hid (fun (w' : World) (h : LitM w3 w' (literalsT (b :: r) false) A5 n5 c5 fine) => pm_block (w := w) HNG.out (.inr <| .inr HW.out) hsz h)
              rw [HW.out] at HPM
              clear hM y0 hT1 CF
              obtain ⟨f0, c0, f1, c1, f2, c2, rr, gg⟩ := put25 q5 (.string ⟨([102, 111, 114, 97, 108, 108] : Bs).toArray⟩) (.slice A5 n5 c5) (.int .i64 0)
              go_wp2_with fail
              exact bodyPost_ret (results_row_tmpQ (p := 2) (u := 3) (ty := 113) rfl _ _ w.heap.size 113 _ (0, 0) _ rfl rr Tryz.underlying113 rfl (by kernel_rfl)) rfl (ParsePost.of HPL.out ⟨hB05.grown gg hB05.size (fun r e => by injection e with e; omega), [102, 111, 114, 97, 108, 108], A5, n5, c5, 0, fine, rfl, HPM.out _ (litM_put HM5.out gg (by have := row_lt r3; omega))⟩)
            by_cases hw4 : a.word = wOutput
            · rw [hw4] at y0
              unfold wOutput at y0
              have HW := hid hw4
              have CF := CL true
              clear hw4 CL
              go_wp2_with fail
              refine CF.mono ?_
              rintro e w5 ⟨A5, n5, c5, fine, rfl, hB5, hM⟩
              have hB05 := below_then hB03 hsz hB5
              have q5 := row_below r3 hB5
              have HM5 := hid hM
              have HPM := hid (fun (w' : World) (h : LitM w3 w' (literalsT (b :: r) true) A5 n5 c5 fine) => pm_out (w := w) HNG.out HW.out hsz h)
              rw [HW.out] at HPM
              clear hM y0 hT1 CF
              cases fine with
              | false =>
                obtain ⟨f0, c0, f1, c1, f2, c2, rr, gg⟩ := put25 q5 (.string ⟨([111, 117, 116, 112, 117, 116] : Bs).toArray⟩) (.slice A5 n5 c5) (.int .i64 0)
                go_wp2_with fail
                exact bodyPost_ret (results_row_tmpQ (p := 2) (u := 3) (ty := 113) rfl _ _ w.heap.size 113 _ (0, 0) _ rfl rr Tryz.underlying113 rfl (by kernel_rfl)) rfl (ParsePost.of HPL.out ⟨hB05.grown gg hB05.size (fun r e => by injection e with e; omega), [111, 117, 116, 112, 117, 116], A5, n5, c5, 0, false, rfl, HPM.out _ (litM_put HM5.out gg (by have := row_lt r3; omega))⟩)
              | true =>
                by_cases hn1 : n5 = 1
                · have hz1 : ((n5 : Int) == 1) = true := by rw [hn1]; rfl
                  have HN1 := hid (decide_eq_true hn1)
                  clear hn1
                  obtain ⟨f0, c0, f1, c1, f2, c2, rr, gg⟩ := put25 q5 (.string ⟨([111, 117, 116, 112, 117, 116] : Bs).toArray⟩) (.slice A5 n5 c5) (.int .i64 0)
                  go_wp2_with fail
                  exact bodyPost_ret (results_row_tmpQ (p := 2) (u := 3) (ty := 113) rfl _ _ w.heap.size 113 _ (0, 0) _ rfl rr Tryz.underlying113 rfl (by kernel_rfl)) rfl (ParsePost.of HPL.out ⟨hB05.grown gg hB05.size (fun r e => by injection e with e; omega), [111, 117, 116, 112, 117, 116], A5, n5, c5, 0, true, rfl, by have k := HPM.out _ (litM_put HM5.out gg (by have := row_lt r3; omega)); rw [HN1.out] at k; exact k⟩)
                · have hz1 : ((n5 : Int) == 1) = false := beq_eq_false_iff_ne.2 (by omega)
                  have HN1 := hid (decide_eq_false hn1)
                  clear hn1
                  obtain ⟨f0, c0, f1, c1, f2, c2, rr, gg⟩ := put25 q5 (.string ⟨([111, 117, 116, 112, 117, 116] : Bs).toArray⟩) (.slice A5 n5 c5) (.int .i64 0)
                  go_wp2_with fail
                  exact bodyPost_ret (results_row_tmpQ (p := 2) (u := 3) (ty := 113) rfl _ _ w.heap.size 113 _ (0, 0) _ rfl rr Tryz.underlying113 rfl (by kernel_rfl)) rfl (ParsePost.of HPL.out ⟨hB05.grown gg hB05.size (fun r e => by injection e with e; omega), [111, 117, 116, 112, 117, 116], A5, n5, c5, 0, false, rfl, by have k := HPM.out _ (litM_put HM5.out gg (by have := row_lt r3; omega)); rw [HN1.out] at k; exact k⟩)
            have HW0 := hid (word_other hw hw' hw'' hw4)
            have hb1 : (a.word == [102, 114, 101, 101]) = false := beq_eq_false_iff_ne.2 hw
            have hb2 : (a.word == [101, 120, 105, 115, 116, 115]) = false := beq_eq_false_iff_ne.2 hw'
            have hb3 : (a.word == [102, 111, 114, 97, 108, 108]) = false := beq_eq_false_iff_ne.2 hw''
            have hb4 : (a.word == [111, 117, 116, 112, 117, 116]) = false := beq_eq_false_iff_ne.2 hw4
            have HPM := hid (fun (w' : World) (A : Option Addr) (n c : Nat) => pm_other (w := w) (w' := w') (A := A) (n := n) (c := c) (word := []) HNG.out HW0.out)
            have CF := CL false
            clear hw hw' hw'' hw4 CL
            generalize a.word = wd at *
            go_wp2_with fail
            refine CF.mono ?_
            rintro e w5 ⟨A5, n5, c5, fine, rfl, hB5, hM⟩
            have hB05 := below_then hB03 hsz hB5
            have q5 := row_below r3 hB5
            clear hM y0 hT1 CF
            obtain ⟨f0, c0, f1, c1, f2, c2, rr, gg⟩ := put25 q5 (.string ⟨([] : Bs).toArray⟩) (.slice none 0 0) (.int .i64 0)
            go_wp2_with fail
            exact bodyPost_ret (results_row_tmpQ (p := 2) (u := 3) (ty := 113) rfl _ _ w.heap.size 113 _ (0, 0) _ rfl rr Tryz.underlying113 rfl (by kernel_rfl)) rfl (ParsePost.of HPL.out ⟨hB05.grown gg hB05.size (fun r e => by injection e with e; omega), [], none, 0, 0, 0, false, rfl, HPM.out _ _ _ _⟩)
        · rw [decide_eq_false h61] at CB
          have HNG : Hid (¬ (0 < a.n ∧ b.byte = 61 ∧ r ≠ [])) := hid (fun h => h61 h.2.1)
          clear h61
          go_wp2_with fail
          refine CB.mono ?_
          rintro e w3 ⟨rfl, hB3⟩
          have hB03 := below_then hB02 hB02.size hB3
          have r3 := row_below r2 hB3
          have hT3 := hTk.keep (keeps_below hB3)
          clear CB s0 s1 s2 p1 hTk r2
          have hT1 := toks_drop 1 hT3 (by omega)
          simp only [Nat.one_mul, List.drop_succ_cons, List.drop_zero] at hT1
          have CL : ∀ sg, Calls Tryz.prog 107 #[.slice (some ⟨b0, off + 3, none⟩) (n - 1) (c - 1), .bool sg] w3 _ := fun sg => litG (signs := sg) hT1 (by omega) (fun t ht => HSM.out t (by simp only [List.mem_cons] at ht ⊢; exact .inr ht))
          have hsz := hB03.size
          have hT0 := hT3.at_ 0 a rfl
          obtain ⟨bb, oo, e, y0, -, -⟩ := hT0
          injection e with e
          injection e with e1 e2
          subst e1; subst e2
          simp only [Nat.zero_mul, Nat.add_zero] at y0
          unfold sv at y0
          by_cases hw : a.word = wFree
          · rw [hw] at y0
            unfold wFree at y0
            have HW := hid hw
            have CF := CL false
            clear hw CL
            go_wp2_with fail
            refine CF.mono ?_
            rintro e w5 ⟨A5, n5, c5, fine, rfl, hB5, hM⟩
            have hB05 := below_then hB03 hsz hB5
            have q5 := row_below r3 hB5
            have HM5 := hid hM
            have HPM := hid (fun (w' : World) (h : LitM w3 w' (literalsT (b :: r) false) A5 n5 c5 fine) => pm_block (w := w) HNG.out (.inl HW.out) hsz h)
            rw [HW.out] at HPM
            clear hM y0 hT1 CF
            obtain ⟨f0, c0, f1, c1, f2, c2, rr, gg⟩ := put25 q5 (.string ⟨([102, 114, 101, 101] : Bs).toArray⟩) (.slice A5 n5 c5) (.int .i64 0)
            go_wp2_with fail
            exact bodyPost_ret (results_row_tmpQ (p := 2) (u := 3) (ty := 113) rfl _ _ w.heap.size 113 _ (0, 0) _ rfl rr Tryz.underlying113 rfl (by kernel_rfl)) rfl (ParsePost.of HPL.out ⟨hB05.grown gg hB05.size (fun r e => by injection e with e; omega), [102, 114, 101, 101], A5, n5, c5, 0, fine, rfl, HPM.out _ (litM_put HM5.out gg (by have := row_lt r3; omega))⟩)
          by_cases hw' : a.word = wExists
          · rw [hw'] at y0
            unfold wExists at y0
            have HW := hid hw'
            have CF := CL false
            clear hw' CL
            go_wp2_with fail
            refine CF.mono ?_
            rintro e w5 ⟨A5, n5, c5, fine, rfl, hB5, hM⟩
            have hB05 := below_then hB03 hsz hB5
            have q5 := row_below r3 hB5
            have HM5 := hid hM
            have HPM := hid (fun (w' : World) (h : LitM w3 w' (literalsT (b :: r) false) A5 n5 c5 fine) => pm_block (w := w) HNG.out (.inr <| .inl HW.out) hsz h)
            rw [HW.out] at HPM
            clear hM y0 hT1 CF
            obtain ⟨f0, c0, f1, c1, f2, c2, rr, gg⟩ := put25 q5 (.string ⟨([101, 120, 105, 115, 116, 115] : Bs).toArray⟩) (.slice A5 n5 c5) (.int .i64 0)
            go_wp2_with fail
            exact bodyPost_ret (results_row_tmpQ (p := 2) (u := 3) (ty := 113) rfl _ _ w.heap.size 113 _ (0, 0) _ rfl rr Tryz.underlying113 rfl (by kernel_rfl)) rfl (ParsePost.of HPL.out ⟨hB05.grown gg hB05.size (fun r e => by injection e with e; omega), [101, 120, 105, 115, 116, 115], A5, n5, c5, 0, fine, rfl, HPM.out _ (litM_put HM5.out gg (by have := row_lt r3; omega))⟩)
          by_cases hw'' : a.word = wForall
          · rw [hw''] at y0
            unfold wForall at y0
            have HW := hid hw''
            have CF := CL false
            clear hw'' CL
            go_wp2_with fail
            refine CF.mono ?_
            rintro e w5 ⟨A5, n5, c5, fine, rfl, hB5, hM⟩
            have hB05 := below_then hB03 hsz hB5
            have q5 := row_below r3 hB5
            have HM5 := hid hM
            have HPM := hid (fun (w' : World) (h : LitM w3 w' (literalsT (b :: r) false) A5 n5 c5 fine) => pm_block (w := w) HNG.out (.inr <| .inr HW.out) hsz h)
            rw [HW.out] at HPM
            clear hM y0 hT1 CF
            obtain ⟨f0, c0, f1, c1, f2, c2, rr, gg⟩ := put25 q5 (.string ⟨([102, 111, 114, 97, 108, 108] : Bs).toArray⟩) (.slice A5 n5 c5) (.int .i64 0)
            go_wp2_with fail
            exact bodyPost_ret (results_row_tmpQ (p := 2) (u := 3) (ty := 113) rfl _ _ w.heap.size 113 _ (0, 0) _ rfl rr Tryz.underlying113 rfl (by kernel_rfl)) rfl (ParsePost.of HPL.out ⟨hB05.grown gg hB05.size (fun r e => by injection e with e; omega), [102, 111, 114, 97, 108, 108], A5, n5, c5, 0, fine, rfl, HPM.out _ (litM_put HM5.out gg (by have := row_lt r3; omega))⟩)
          by_cases hw4 : a.word = wOutput
          · rw [hw4] at y0
            unfold wOutput at y0
            have HW := hid hw4
            have CF := CL true
            clear hw4 CL
            go_wp2_with fail
            refine CF.mono ?_
            rintro e w5 ⟨A5, n5, c5, fine, rfl, hB5, hM⟩
            have hB05 := below_then hB03 hsz hB5
            have q5 := row_below r3 hB5
            have HM5 := hid hM
            have HPM := hid (fun (w' : World) (h : LitM w3 w' (literalsT (b :: r) true) A5 n5 c5 fine) => pm_out (w := w) HNG.out HW.out hsz h)
            rw [HW.out] at HPM
            clear hM y0 hT1 CF
            cases fine with
            | false =>
              obtain ⟨f0, c0, f1, c1, f2, c2, rr, gg⟩ := put25 q5 (.string ⟨([111, 117, 116, 112, 117, 116] : Bs).toArray⟩) (.slice A5 n5 c5) (.int .i64 0)
              go_wp2_with fail
              exact bodyPost_ret (results_row_tmpQ (p := 2) (u := 3) (ty := 113) rfl _ _ w.heap.size 113 _ (0, 0) _ rfl rr Tryz.underlying113 rfl (by kernel_rfl)) rfl (ParsePost.of HPL.out ⟨hB05.grown gg hB05.size (fun r e => by injection e with e; omega), [111, 117, 116, 112, 117, 116], A5, n5, c5, 0, false, rfl, HPM.out _ (litM_put HM5.out gg (by have := row_lt r3; omega))⟩)
            | true =>
              by_cases hn1 : n5 = 1
              · have hz1 : ((n5 : Int) == 1) = true := by rw [hn1]; rfl
                have HN1 := hid (decide_eq_true hn1)
                clear hn1
                obtain ⟨f0, c0, f1, c1, f2, c2, rr, gg⟩ := put25 q5 (.string ⟨([111, 117, 116, 112, 117, 116] : Bs).toArray⟩) (.slice A5 n5 c5) (.int .i64 0)
                go_wp2_with fail
                exact bodyPost_ret (results_row_tmpQ (p := 2) (u := 3) (ty := 113) rfl _ _ w.heap.size 113 _ (0, 0) _ rfl rr Tryz.underlying113 rfl (by kernel_rfl)) rfl (ParsePost.of HPL.out ⟨hB05.grown gg hB05.size (fun r e => by injection e with e; omega), [111, 117, 116, 112, 117, 116], A5, n5, c5, 0, true, rfl, by have k := HPM.out _ (litM_put HM5.out gg (by have := row_lt r3; omega)); rw [HN1.out] at k; exact k⟩)
              · have hz1 : ((n5 : Int) == 1) = false := beq_eq_false_iff_ne.2 (by omega)
                have HN1 := hid (decide_eq_false hn1)
                clear hn1
                obtain ⟨f0, c0, f1, c1, f2, c2, rr, gg⟩ := put25 q5 (.string ⟨([111, 117, 116, 112, 117, 116] : Bs).toArray⟩) (.slice A5 n5 c5) (.int .i64 0)
                go_wp2_with fail
                exact bodyPost_ret (results_row_tmpQ (p := 2) (u := 3) (ty := 113) rfl _ _ w.heap.size 113 _ (0, 0) _ rfl rr Tryz.underlying113 rfl (by kernel_rfl)) rfl (ParsePost.of HPL.out ⟨hB05.grown gg hB05.size (fun r e => by injection e with e; omega), [111, 117, 116, 112, 117, 116], A5, n5, c5, 0, false, rfl, by have k := HPM.out _ (litM_put HM5.out gg (by have := row_lt r3; omega)); rw [HN1.out] at k; exact k⟩)
          have HW0 := hid (word_other hw hw' hw'' hw4)
          have hb1 : (a.word == [102, 114, 101, 101]) = false := beq_eq_false_iff_ne.2 hw
          have hb2 : (a.word == [101, 120, 105, 115, 116, 115]) = false := beq_eq_false_iff_ne.2 hw'
          have hb3 : (a.word == [102, 111, 114, 97, 108, 108]) = false := beq_eq_false_iff_ne.2 hw''
          have hb4 : (a.word == [111, 117, 116, 112, 117, 116]) = false := beq_eq_false_iff_ne.2 hw4
          have HPM := hid (fun (w' : World) (A : Option Addr) (n c : Nat) => pm_other (w := w) (w' := w') (A := A) (n := n) (c := c) (word := []) HNG.out HW0.out)
          have CF := CL false
          clear hw hw' hw'' hw4 CL
          generalize a.word = wd at *
          go_wp2_with fail
          refine CF.mono ?_
          rintro e w5 ⟨A5, n5, c5, fine, rfl, hB5, hM⟩
          have hB05 := below_then hB03 hsz hB5
          have q5 := row_below r3 hB5
          clear hM y0 hT1 CF
          obtain ⟨f0, c0, f1, c1, f2, c2, rr, gg⟩ := put25 q5 (.string ⟨([] : Bs).toArray⟩) (.slice none 0 0) (.int .i64 0)
          go_wp2_with fail
          exact bodyPost_ret (results_row_tmpQ (p := 2) (u := 3) (ty := 113) rfl _ _ w.heap.size 113 _ (0, 0) _ rfl rr Tryz.underlying113 rfl (by kernel_rfl)) rfl (ParsePost.of HPL.out ⟨hB05.grown gg hB05.size (fun r e => by injection e with e; omega), [], none, 0, 0, 0, false, rfl, HPM.out _ _ _ _⟩)
      · have HNG : Hid (¬ (0 < a.n ∧ b.byte = 61 ∧ r ≠ [])) := hid (fun h => ha0 h.1)
        have han : a.n = 0 := by omega
        rw [han] at p1
        have hT3 := hTk
        have r3 := r2
        have hB03 := hB02
        clear s0 s1 s2 ha0 han hTk r2
        have hT1 := toks_drop 1 hT3 (by omega)
        simp only [Nat.one_mul, List.drop_succ_cons, List.drop_zero] at hT1
        have CL : ∀ sg, Calls Tryz.prog 107 #[.slice (some ⟨b0, off + 3, none⟩) (n - 1) (c - 1), .bool sg] w2 _ := fun sg => litG (signs := sg) hT1 (by omega) (fun t ht => HSM.out t (by simp only [List.mem_cons] at ht ⊢; exact .inr ht))
        have hsz := hB03.size
        have hT0 := hT3.at_ 0 a rfl
        obtain ⟨bb, oo, e, y0, -, -⟩ := hT0
        injection e with e
        injection e with e1 e2
        subst e1; subst e2
        simp only [Nat.zero_mul, Nat.add_zero] at y0
        unfold sv at y0
        by_cases hw : a.word = wFree
        · rw [hw] at y0
          unfold wFree at y0
          have HW := hid hw
          have CF := CL false
          clear hw CL
          go_wp2_with fail
          refine CF.mono ?_
          rintro e w5 ⟨A5, n5, c5, fine, rfl, hB5, hM⟩
          have hB05 := below_then hB03 hsz hB5
          have q5 := row_below r3 hB5
          have HM5 := hid hM
          have HPM := hid (fun (w' : World) (h : LitM w2 w' (literalsT (b :: r) false) A5 n5 c5 fine) => pm_block (w := w) HNG.out (.inl HW.out) hsz h)
          rw [HW.out] at HPM
          clear hM y0 hT1 CF
          obtain ⟨f0, c0, f1, c1, f2, c2, rr, gg⟩ := put25 q5 (.string ⟨([102, 114, 101, 101] : Bs).toArray⟩) (.slice A5 n5 c5) (.int .i64 0)
          go_wp2_with fail
          exact bodyPost_ret (results_row_tmpQ (p := 2) (u := 3) (ty := 113) rfl _ _ w.heap.size 113 _ (0, 0) _ rfl rr Tryz.underlying113 rfl (by kernel_rfl)) rfl (ParsePost.of HPL.out ⟨hB05.grown gg hB05.size (fun r e => by injection e with e; omega), [102, 114, 101, 101], A5, n5, c5, 0, fine, rfl, HPM.out _ (litM_put HM5.out gg (by have := row_lt r3; omega))⟩)
        by_cases hw' : a.word = wExists
        · rw [hw'] at y0
          unfold wExists at y0
          have HW := hid hw'
          have CF := CL false
          clear hw' CL
          go_wp2_with fail
          refine CF.mono ?_
          rintro e w5 ⟨A5, n5, c5, fine, rfl, hB5, hM⟩
          have hB05 := below_then hB03 hsz hB5
          have q5 := row_below r3 hB5
          have HM5 := hid hM
          have HPM := hid (fun (w' : World) (h : LitM w2 w' (literalsT (b :: r) false) A5 n5 c5 fine) => pm_block (w := w) HNG.out (.inr <| .inl HW.out) hsz h)
          rw [HW.out] at HPM
          clear hM y0 hT1 CF
          obtain ⟨f0, c0, f1, c1, f2, c2, rr, gg⟩ := put25 q5 (.string ⟨([101, 120, 105, 115, 116, 115] : Bs).toArray⟩) (.slice A5 n5 c5) (.int .i64 0)
          go_wp2_with fail
          exact bodyPost_ret (results_row_tmpQ (p := 2) (u := 3) (ty := 113) rfl _ _ w.heap.size 113 _ (0, 0) _ rfl rr Tryz.underlying113 rfl (by kernel_rfl)) rfl (ParsePost.of HPL.out ⟨hB05.grown gg hB05.size (fun r e => by injection e with e; omega), [101, 120, 105, 115, 116, 115], A5, n5, c5, 0, fine, rfl, HPM.out _ (litM_put HM5.out gg (by have := row_lt r3; omega))⟩)
        by_cases hw'' : a.word = wForall
        · rw [hw''] at y0
          unfold wForall at y0
          have HW := hid hw''
          have CF := CL false
          clear hw'' CL
          go_wp2_with fail
          refine CF.mono ?_
          rintro e w5 ⟨A5, n5, c5, fine, rfl, hB5, hM⟩
          have hB05 := below_then hB03 hsz hB5
          have q5 := row_below r3 hB5
          have HM5 := hid hM
          have HPM := hid (fun (w' : World) (h : LitM w2 w' (literalsT (b :: r) false) A5 n5 c5 fine) => pm_block (w := w) HNG.out (.inr <| .inr HW.out) hsz h)
          rw [HW.out] at HPM
          clear hM y0 hT1 CF
          obtain ⟨f0, c0, f1, c1, f2, c2, rr, gg⟩ := put25 q5 (.string ⟨([102, 111, 114, 97, 108, 108] : Bs).toArray⟩) (.slice A5 n5 c5) (.int .i64 0)
          go_wp2_with fail
          exact bodyPost_ret (results_row_tmpQ (p := 2) (u := 3) (ty := 113) rfl _ _ w.heap.size 113 _ (0, 0) _ rfl rr Tryz.underlying113 rfl (by kernel_rfl)) rfl (ParsePost.of HPL.out ⟨hB05.grown gg hB05.size (fun r e => by injection e with e; omega), [102, 111, 114, 97, 108, 108], A5, n5, c5, 0, fine, rfl, HPM.out _ (litM_put HM5.out gg (by have := row_lt r3; omega))⟩)
        by_cases hw4 : a.word = wOutput
        · rw [hw4] at y0
          unfold wOutput at y0
          have HW := hid hw4
          have CF := CL true
          clear hw4 CL
          go_wp2_with fail
          refine CF.mono ?_
          rintro e w5 ⟨A5, n5, c5, fine, rfl, hB5, hM⟩
          have hB05 := below_then hB03 hsz hB5
          have q5 := row_below r3 hB5
          have HM5 := hid hM
          have HPM := hid (fun (w' : World) (h : LitM w2 w' (literalsT (b :: r) true) A5 n5 c5 fine) => pm_out (w := w) HNG.out HW.out hsz h)
          rw [HW.out] at HPM
          clear hM y0 hT1 CF
          cases fine with
          | false =>
            obtain ⟨f0, c0, f1, c1, f2, c2, rr, gg⟩ := put25 q5 (.string ⟨([111, 117, 116, 112, 117, 116] : Bs).toArray⟩) (.slice A5 n5 c5) (.int .i64 0)
            go_wp2_with fail
            exact bodyPost_ret (results_row_tmpQ (p := 2) (u := 3) (ty := 113) rfl _ _ w.heap.size 113 _ (0, 0) _ rfl rr Tryz.underlying113 rfl (by kernel_rfl)) rfl (ParsePost.of HPL.out ⟨hB05.grown gg hB05.size (fun r e => by injection e with e; omega), [111, 117, 116, 112, 117, 116], A5, n5, c5, 0, false, rfl, HPM.out _ (litM_put HM5.out gg (by have := row_lt r3; omega))⟩)
          | true =>
            by_cases hn1 : n5 = 1
            · have hz1 : ((n5 : Int) == 1) = true := by rw [hn1]; rfl
              have HN1 := hid (decide_eq_true hn1)
              clear hn1
              obtain ⟨f0, c0, f1, c1, f2, c2, rr, gg⟩ := put25 q5 (.string ⟨([111, 117, 116, 112, 117, 116] : Bs).toArray⟩) (.slice A5 n5 c5) (.int .i64 0)
              go_wp2_with fail
              exact bodyPost_ret (results_row_tmpQ (p := 2) (u := 3) (ty := 113) rfl _ _ w.heap.size 113 _ (0, 0) _ rfl rr Tryz.underlying113 rfl (by kernel_rfl)) rfl (ParsePost.of HPL.out ⟨hB05.grown gg hB05.size (fun r e => by injection e with e; omega), [111, 117, 116, 112, 117, 116], A5, n5, c5, 0, true, rfl, by have k := HPM.out _ (litM_put HM5.out gg (by have := row_lt r3; omega)); rw [HN1.out] at k; exact k⟩)
            · have hz1 : ((n5 : Int) == 1) = false := beq_eq_false_iff_ne.2 (by omega)
              have HN1 := hid (decide_eq_false hn1)
              clear hn1
              obtain ⟨f0, c0, f1, c1, f2, c2, rr, gg⟩ := put25 q5 (.string ⟨([111, 117, 116, 112, 117, 116] : Bs).toArray⟩) (.slice A5 n5 c5) (.int .i64 0)
              go_wp2_with fail
              exact bodyPost_ret (results_row_tmpQ (p := 2) (u := 3) (ty := 113) rfl _ _ w.heap.size 113 _ (0, 0) _ rfl rr Tryz.underlying113 rfl (by kernel_rfl)) rfl (ParsePost.of HPL.out ⟨hB05.grown gg hB05.size (fun r e => by injection e with e; omega), [111, 117, 116, 112, 117, 116], A5, n5, c5, 0, false, rfl, by have k := HPM.out _ (litM_put HM5.out gg (by have := row_lt r3; omega)); rw [HN1.out] at k; exact k⟩)
        have HW0 := hid (word_other hw hw' hw'' hw4)
        have hb1 : (a.word == [102, 114, 101, 101]) = false := beq_eq_false_iff_ne.2 hw
        have hb2 : (a.word == [101, 120, 105, 115, 116, 115]) = false := beq_eq_false_iff_ne.2 hw'
        have hb3 : (a.word == [102, 111, 114, 97, 108, 108]) = false := beq_eq_false_iff_ne.2 hw''
        have hb4 : (a.word == [111, 117, 116, 112, 117, 116]) = false := beq_eq_false_iff_ne.2 hw4
        have HPM := hid (fun (w' : World) (A : Option Addr) (n c : Nat) => pm_other (w := w) (w' := w') (A := A) (n := n) (c := c) (word := []) HNG.out HW0.out)
        have CF := CL false
        clear hw hw' hw'' hw4 CL
        generalize a.word = wd at *
        go_wp2_with fail
        refine CF.mono ?_
        rintro e w5 ⟨A5, n5, c5, fine, rfl, hB5, hM⟩
        have hB05 := below_then hB03 hsz hB5
        have q5 := row_below r3 hB5
        clear hM y0 hT1 CF
        obtain ⟨f0, c0, f1, c1, f2, c2, rr, gg⟩ := put25 q5 (.string ⟨([] : Bs).toArray⟩) (.slice none 0 0) (.int .i64 0)
        go_wp2_with fail
        exact bodyPost_ret (results_row_tmpQ (p := 2) (u := 3) (ty := 113) rfl _ _ w.heap.size 113 _ (0, 0) _ rfl rr Tryz.underlying113 rfl (by kernel_rfl)) rfl (ParsePost.of HPL.out ⟨hB05.grown gg hB05.size (fun r e => by injection e with e; omega), [], none, 0, 0, 0, false, rfl, HPM.out _ _ _ _⟩)
end Go.Proofs.YtnlobmepajakcaaGreatDoor
