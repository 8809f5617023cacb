/- What tokens of the document's reader does; the condition: texts have at most 2^22 bytes. -/
import Derived.Test.YtnlobmepajakcaaGreatDoorZRtA
import Derived.Test.YtnlobmepajakcaaGreatDoorZQv
set_option linter.unusedVariables false
set_option linter.unusedSimpArgs false
namespace Go.Proofs.YtnlobmepajakcaaGreatDoor
open Go.RowKit Go.Shelf
attribute [local go_sem] Oper.semAt_some

def tcell (t : Tok) : List Value := [sv t.word, .int .i64 (t.n : Int), .int .u8 (t.byte.toNat : Int)]
def tcells (ts : List Tok) : List Value := ts.flatMap tcell
theorem tcells_snoc (ts : List Tok) (t : Tok) : tcells (ts ++ [t]) = tcells ts ++ tcell t := by unfold tcells; simp
theorem info153 : (Tryz.prog.info? 153).map (fun i => (i.zero, i.size, i.bytes)) = some (some (.agg #[.string ⟨#[]⟩, .int .i64 0, .int .u8 0]), 3, 32) := by kernel_rfl
def TokC (w : World) (b o : Nat) (t : Tok) : Prop := w.cell? ⟨b, o, none⟩ = some (sv t.word) ∧ w.cell? ⟨b, o + 1, none⟩ = some (.int .i64 (t.n : Int)) ∧ w.cell? ⟨b, o + 2, none⟩ = some (.int .u8 (t.byte.toNat : Int))
def ToksAt (w : World) (v : Value) (ts : List Tok) : Prop := SlAt 3 TokC w v ts
theorem ToksAt.keep {w w' : World} {v : Value} {ts : List Tok} (h : ToksAt w v ts) (hk : Keeps w w') : ToksAt w' v ts := SlAt.keep h fun _ _ _ h => ⟨hk _ _ h.1, hk _ _ h.2.1, hk _ _ h.2.2⟩
theorem ToksAt.at_ {w : World} {A : Option Addr} {n c : Nat} {ts : List Tok} (h : ToksAt w (.slice A n c) ts) (k : Nat) (x : Tok) (hx : ts[k]? = some x) :
    ∃ b off, A = some ⟨b, off, none⟩ ∧ TokC w b (off + k * 3) x := by
  obtain ⟨A', c', e, h1, h2, h3⟩ := h
  cases e
  obtain ⟨b, off, e2, h4⟩ := h3 (by have := (List.getElem?_eq_some_iff.1 hx).1; omega)
  exact ⟨b, off, e2, h4 k x hx⟩
theorem tcells_get : ∀ (ts : List Tok) (j : Nat) (t : Tok), ts[j]? = some t → (tcells ts)[j * 3]? = some (sv t.word) ∧ (tcells ts)[j * 3 + 1]? = some (.int .i64 (t.n : Int)) ∧ (tcells ts)[j * 3 + 2]? = some (.int .u8 (t.byte.toNat : Int))
  | [], j, t, h => by simp at h
  | x :: l, 0, t, h => by
    injection h with h
    subst h
    exact ⟨rfl, rfl, rfl⟩
  | x :: l, j + 1, t, h => by
    have ih := tcells_get l j t (by simpa using h)
    have e : tcells (x :: l) = tcell x ++ tcells l := by unfold tcells; rw [List.flatMap_cons]
    rw [e]
    have e0 : (j + 1) * 3 = j * 3 + 1 + 1 + 1 := by omega
    rw [e0]
    exact ih
theorem toks_of_own {w : World} {base : Nat} {v : Value} {ts : List Tok} (h : w.ownsRow base 153 3 v ts.length (tcells ts)) : ToksAt w v ts := by
  have hO := h
  rcases h.2 with ⟨hv, hz⟩ | ⟨g, cap, cur, hv, hbg, hg, hcap⟩
  · subst hv
    have : ts = [] := List.eq_nil_of_length_eq_zero hz
    subst this
    exact ⟨none, 0, rfl, by simp, by omega, fun hp => by simp at hp⟩
  · subst hv
    refine ⟨some ⟨g, 0, none⟩, cap, rfl, ?_, ?_, fun _ => ⟨g, 0, rfl, fun j t ht => ?_⟩⟩
    · exact hcap.1
    · have := hcap.2.1; unfold maxLen at this; omega
    · obtain ⟨a0, a1, a2⟩ := tcells_get ts j t ht
      have hj := (List.getElem?_eq_some_iff.1 ht).1
      rw [Nat.zero_add]
      exact ⟨(hO.cellAt (j * 3) (by omega)).trans a0, (hO.cellAt (j * 3 + 1) (by omega)).trans a1, (hO.cellAt (j * 3 + 2) (by omega)).trans a2⟩
theorem ex_mid (l : Bs) (i n k : Nat) (hk : k = i + n) : (⟨l.toArray⟩ : ByteArray).extract i k = ⟨((l.drop i).take n).toArray⟩ := by
  subst hk
  apply ByteArray.ext
  rw [ByteArray.data_extract]
  simp
/-- What tokens returns. -/
def TokPost (w : World) (r : Option (List Tok)) (e : Ending) (w' : World) : Prop := Below w.heap.size w w' ∧ match r with
  | none => e = .returned (.tuple #[.slice none 0 0, .bool false])
  | some ts => ∃ A c, e = .returned (.tuple #[.slice A ts.length c, .bool true]) ∧ ToksAt w' (.slice A ts.length c) ts ∧ ∀ b, (Value.slice A ts.length c).ownBlock = some b → w.heap.size ≤ b
theorem tokPost_none {w : World} {r : Option (List Tok)} {w' : World} (h : r = none) (hB : Below w.heap.size w w') : TokPost w r (.returned (.tuple #[.slice none 0 0, .bool false])) w' := by subst h; exact ⟨hB, rfl⟩
theorem tokPost_some {w : World} {r : Option (List Tok)} {w' : World} {ts : List Tok} {A : Option Addr} {c : Nat} (h : r = some ts) (hB : Below w.heap.size w w') (hO : w'.ownsRow w.heap.size 153 3 (.slice A ts.length c) ts.length (tcells ts)) :
    TokPost w r (.returned (.tuple #[.slice A ts.length c, .bool true])) w' := by subst h; exact ⟨hB, A, c, rfl, toks_of_own hO, fun b hb => (hO.lt b hb).1⟩
set_option maxRecDepth 100000 in
set_option maxHeartbeats 4000000 in
theorem tokens_any (s : Bs) (w : World) (hl : s.length ≤ 4194304) : Calls Tryz.prog 105 #[.string ⟨s.toArray⟩] w (TokPost w (tokP s)) := by
  go_enter Tryz.func105, Tryz.ntmps105
  go_wp2_with fail
  go_loopg [4, 5] s.length (fun gg s4 s5 wr => ∃ (i : Nat) (ts : List Tok) (A : Option Addr) (c : Nat), i ≤ s.length ∧ s.length - i ≤ gg ∧ s5 = .int .i64 (i : Int) ∧ s4 = .slice A ts.length c ∧ Below w.heap.size w wr ∧
    wr.ownsRow w.heap.size 153 3 (.slice A ts.length c) ts.length (tcells ts) ∧ ts.length ≤ i ∧ Hid (TokS s i ts))
  case atStart => exact ⟨0, [], none, 0, by omega, by omega, rfl, rfl, Below.refl _ _, World.ownsRow_nil _ _ _ _, by simp, hid (TokS.zero s)⟩
  case round =>
    obtain ⟨i, ts, A, c, hi, hg, rfl, rfl, hB, hO, htl, HT⟩ := hrel
    have hbs := hB.size
    by_cases hlt : i < s.length
    · have hltz : (i : Int) < (s.length : Int) := by omega
      obtain ⟨ch, hch, -, -⟩ := nth hlt
      have hb := byte_at hch
      have HC := hid hch
      clear hch
      by_cases h32 : ch = 32
      · subst h32
        have HN := hid (HT.out.space HC.out)
        clear HT
        go_wp2_with fail
        go_roundg (s.length - (i + 1))
        case measure => omega
        case rel => exact ⟨i + 1, ts, A, c, by omega, by omega, by go_num, rfl, hB, hO, by omega, HN⟩
      · have hz32 : ((ch.toNat : Int) == 32) = false := beq_eq_false_iff_ne.2 (fun e => h32 (UInt8.toNat_inj.1 (by show ch.toNat = 32; omega)))
        cases hlow : isLow ch with
        | true =>
          obtain ⟨h97, h122⟩ := isLow_iff.1 hlow
          have hz97 : (97 : Int) ≤ (ch.toNat : Int) := by omega
          have hz122 : (ch.toNat : Int) ≤ 122 := by omega
          have HW := hid (HT.out.word HC.out hlow)
          have h1 : 0 < ((s.drop i).takeWhile isLow).length := by rw [drop_one HC.out, tw_cons hlow]; simp
          have hn := tw_le isLow (s.drop i)
          rw [List.length_drop] at hn
          have hget : Hid (∀ (j : Nat) (c : UInt8), s[i + j]? = some c → j < ((s.drop i).takeWhile isLow).length → isLow c = true) := hid (fun j c hc hj => tw_get isLow (s.drop i) j c (by rw [List.getElem?_drop]; exact hc) hj)
          have hstop : Hid (∀ c : UInt8, s[i + ((s.drop i).takeWhile isLow).length]? = some c → isLow c = false) := hid (fun c hc => tw_stop isLow (s.drop i) c (by rw [List.getElem?_drop]; exact hc))
          have hex : Hid (∀ k, k = i + ((s.drop i).takeWhile isLow).length → (⟨s.toArray⟩ : ByteArray).extract i k = ⟨((s.drop i).takeWhile isLow).toArray⟩) := hid (fun k hk => by rw [ex_mid s i _ k hk, tw_take])
          generalize (s.drop i).takeWhile isLow = tw at HW hn hget hstop hex h1
          generalize hnn : tw.length = n at *
          replace hnn := hid hnn
          clear HT hlow
          go_wp2_with fail
          go_loopg [7] n (fun gg s7 wr' => ∃ k : Nat, i ≤ k ∧ k ≤ i + n ∧ i + n - k ≤ gg ∧ s7 = .int .i64 (k : Int) ∧ wr' = wr)
          case atStart => exact ⟨i, by omega, by omega, by omega, rfl, rfl⟩
          case round =>
            obtain ⟨k, hk, hj, hgj, rfl, hw⟩ := hrel
            subst hw
            by_cases hjn : k < i + n
            · obtain ⟨c2, hc2, -, -⟩ := nth (show k < s.length by omega)
              have hb2 := byte_at hc2
              have hlow2 := hget.out (k - i) c2 (by rw [show i + (k - i) = k by omega]; exact hc2) (by omega)
              obtain ⟨g97, g122⟩ := isLow_iff.1 hlow2
              have gz97 : (97 : Int) ≤ (c2.toNat : Int) := by omega
              have gz122 : (c2.toNat : Int) ≤ 122 := by omega
              have hkz : (k : Int) < (s.length : Int) := by omega
              clear hc2 hlow2 hb
              go_wp2_with fail
              go_roundg (i + n - (k + 1))
              case measure => omega
              case rel => exact ⟨k + 1, by omega, by omega, by omega, by go_num, rfl⟩
            · have hkn : k = i + n := by omega
              have he := hex.out k hkn
              have HN : Hid (TokS s k (ts ++ [⟨tw, 0, 0⟩])) := hid (by rw [hkn]; exact HW.out)
              have hiz : (i : Int) ≤ (k : Int) := by omega
              have hkl : (k : Int) ≤ (s.length : Int) := by omega
              have hst : ∀ c : UInt8, s[k]? = some c → isLow c = false := fun c hc => hstop.out c (by rw [← hkn]; exact hc)
              have h1k : i + 1 ≤ k := by omega
              replace hst := hid hst
              clear hkn hj hjn
              by_cases hks : k < s.length
              · obtain ⟨c2, hc2, -, -⟩ := nth hks
                have hb2 := byte_at hc2
                have hlow2 := hst.out c2 hc2
                have hkz : (k : Int) < (s.length : Int) := by omega
                by_cases g97 : (97 : Int) ≤ (c2.toNat : Int)
                · have gz : decide ((c2.toNat : Int) ≤ 122) = false := decide_eq_false (fun e => Bool.noConfusion (hlow2.symm.trans (isLow_iff.2 ⟨by omega, by omega⟩)))
                  clear hc2 hlow2 hb hlt hltz hks
                  go_wp2_with (first | (at_builtin; refine append_one w.heap.size rfl _ _ 149 153 (.agg #[.string ⟨#[]⟩, .int .i64 0, .int .u8 0]) 3 32 rfl Tryz.underlying149 info153 rfl (by decide) (by decide) (.slice A ts.length c) ts.length (tcells ts) #[.string ⟨tw.toArray⟩, .int .i64 0, .int .u8 0] rfl rfl rfl (by intro u hu; simp at hu; rcases hu with rfl | rfl | rfl <;> rfl) hO hbs (by omega) ?_; intro g2 cap2 w3 hO3 hG3 hg3 hbg hlt3) | fail)
                  have hB3 := hB.grown hG3 hbs (fun r e => (hO.lt r e).1)
                  go_roundg (s.length - k)
                  case measure => omega
                  case rel =>
                    refine ⟨k, ts ++ [⟨tw, 0, 0⟩], some ⟨g2, 0, none⟩, cap2, by omega, by omega, by go_num, by rw [List.length_append]; rfl, hB3, ?_, by rw [List.length_append]; simp only [List.length_cons, List.length_nil]; omega, HN⟩
                    rw [List.length_append, tcells_snoc]
                    exact hO3
                · have gz : decide ((97 : Int) ≤ (c2.toNat : Int)) = false := decide_eq_false g97
                  clear hc2 hlow2 hb g97 hlt hltz hks
                  go_wp2_with (first | (at_builtin; refine append_one w.heap.size rfl _ _ 149 153 (.agg #[.string ⟨#[]⟩, .int .i64 0, .int .u8 0]) 3 32 rfl Tryz.underlying149 info153 rfl (by decide) (by decide) (.slice A ts.length c) ts.length (tcells ts) #[.string ⟨tw.toArray⟩, .int .i64 0, .int .u8 0] rfl rfl rfl (by intro u hu; simp at hu; rcases hu with rfl | rfl | rfl <;> rfl) hO hbs (by omega) ?_; intro g2 cap2 w3 hO3 hG3 hg3 hbg hlt3) | fail)
                  have hB3 := hB.grown hG3 hbs (fun r e => (hO.lt r e).1)
                  go_roundg (s.length - k)
                  case measure => omega
                  case rel =>
                    refine ⟨k, ts ++ [⟨tw, 0, 0⟩], some ⟨g2, 0, none⟩, cap2, by omega, by omega, by go_num, by rw [List.length_append]; rfl, hB3, ?_, by rw [List.length_append]; simp only [List.length_cons, List.length_nil]; omega, HN⟩
                    rw [List.length_append, tcells_snoc]
                    exact hO3
              · obtain rfl : k = s.length := by omega
                clear hb hlt hltz hks
                go_wp2_with (first | (at_builtin; refine append_one w.heap.size rfl _ _ 149 153 (.agg #[.string ⟨#[]⟩, .int .i64 0, .int .u8 0]) 3 32 rfl Tryz.underlying149 info153 rfl (by decide) (by decide) (.slice A ts.length c) ts.length (tcells ts) #[.string ⟨tw.toArray⟩, .int .i64 0, .int .u8 0] rfl rfl rfl (by intro u hu; simp at hu; rcases hu with rfl | rfl | rfl <;> rfl) hO hbs (by omega) ?_; intro g2 cap2 w3 hO3 hG3 hg3 hbg hlt3) | fail)
                have hB3 := hB.grown hG3 hbs (fun r e => (hO.lt r e).1)
                go_roundg (s.length - s.length)
                case measure => omega
                case rel =>
                  refine ⟨s.length, ts ++ [⟨tw, 0, 0⟩], some ⟨g2, 0, none⟩, cap2, by omega, by omega, by go_num, by rw [List.length_append]; rfl, hB3, ?_, by rw [List.length_append]; simp only [List.length_cons, List.length_nil]; omega, HN⟩
                  rw [List.length_append, tcells_snoc]
                  exact hO3
        | false =>
          by_cases hd : 49 ≤ ch.toNat ∧ ch.toNat ≤ 57
          · obtain ⟨hd49, hd57⟩ := hd
            have hd := And.intro hd49 hd57
            have hz97 : decide ((97 : Int) ≤ (ch.toNat : Int)) = false := decide_eq_false (by omega)
            have hz49 : (49 : Int) ≤ (ch.toNat : Int) := by omega
            have hz57 : (ch.toNat : Int) ≤ 57 := by omega
            have HW0 := hid (fun hv => HT.out.num HC.out hd hv)
            have HL0 := hid (fun hv => HT.out.long HC.out hd hv)
            have hn := tw_le isDig (s.drop i)
            rw [List.length_drop] at hn
            have h1 : 0 < ((s.drop i).takeWhile isDig).length := by rw [drop_one HC.out, tw_cons (dig_of hd).1]; simp
            have hget : Hid (∀ (j : Nat) (c : UInt8), s[i + j]? = some c → j < ((s.drop i).takeWhile isDig).length → isDig c = true ∧ ((s.drop i).takeWhile isDig)[j]? = some c) := hid (fun j c hc hj => by
              have hc' : (s.drop i)[j]? = some c := by rw [List.getElem?_drop]; exact hc
              refine ⟨tw_get isDig (s.drop i) j c hc' hj, ?_⟩
              rw [← tw_take isDig (s.drop i), List.getElem?_take, if_pos hj]
              exact hc')
            have hstop : Hid (∀ c : UInt8, s[i + ((s.drop i).takeWhile isDig).length]? = some c → isDig c = false) := hid (fun c hc => tw_stop isDig (s.drop i) c (by rw [List.getElem?_drop]; exact hc))
            generalize (s.drop i).takeWhile isDig = tw at HW0 HL0 hn hget hstop h1
            generalize hnn : tw.length = n at *
            replace hnn := hid hnn
            have HL : Hid (∀ v j : Nat, v = decV 0 (tw.take j) → 65536 < v → tokP s = none) := hid (fun v j hv h => HL0.out (Nat.lt_of_lt_of_le (by rw [← hv]; exact h) (decV_take tw j)))
            have HW : Hid (∀ v k : Nat, k = i + n → v = decV 0 (tw.take n) → ¬ 65536 < v → TokS s k (ts ++ [⟨[], v, 0⟩])) := hid (fun v k hk hv h => by
              rw [← hnn.out, List.take_length] at hv
              subst hv; subst hk
              exact HW0.out h)
            clear HT HW0 HL0 hd
            go_wp2_with fail
            go_loopg [7, 8] n (fun gg s7 s8 wr' => ∃ k v : Nat, i ≤ k ∧ k ≤ i + n ∧ i + n - k ≤ gg ∧ s7 = .int .i64 (k : Int) ∧ s8 = .int .i64 (v : Int) ∧ v ≤ 1000000 ∧ wr' = wr ∧ Hid (v = decV 0 (tw.take (k - i))))
            case atStart => exact ⟨i, 0, by omega, by omega, by omega, rfl, rfl, by omega, rfl, hid (by rw [Nat.sub_self]; rfl)⟩
            case round =>
              obtain ⟨k, v, hk, hj, hgj, rfl, rfl, hv6, hw, HV⟩ := hrel
              subst hw
              by_cases hjn : k < i + n
              · obtain ⟨c2, hc2, -, -⟩ := nth (show k < s.length by omega)
                have hb2 := byte_at hc2
                obtain ⟨hd2, ht2⟩ := hget.out (k - i) c2 (by rw [show i + (k - i) = k by omega]; exact hc2) (by omega)
                obtain ⟨g48, g57⟩ := isDig_iff.1 hd2
                have gz48 : (48 : Int) ≤ (c2.toNat : Int) := by omega
                have gz57 : (c2.toNat : Int) ≤ 57 := by omega
                have hkz : (k : Int) < (s.length : Int) := by omega
                have HV2 := hid (decV_next ht2)
                clear hc2 hd2 ht2 hb
                by_cases hbig : 65536 < v
                · have HN := hid (HL.out v (k - i) HV.out hbig)
                  have hvz : (65536 : Int) < (v : Int) := by omega
                  have hvl : decide ((v : Int) ≤ 65536) = false := decide_eq_false (by omega)
                  clear hbig
                  go_wp2_with fail
                  go_ret2
                  exact tokPost_none HN.out hB
                · have hvl : (v : Int) ≤ 65536 := by omega
                  have hu : IntKind.u8.wrap ((c2.toNat : Int) - 48) = (c2.toNat : Int) - 48 := IntWalk.u8_in _ (by omega)
                  have hi1 : IntKind.i64.wrap ((c2.toNat : Int) - 48) = (c2.toNat : Int) - 48 := IntWalk.i64_in _ (by omega)
                  have hi2 : IntKind.i64.wrap (10 * (v : Int)) = 10 * (v : Int) := IntWalk.i64_in _ (by omega)
                  have hi3 : IntKind.i64.wrap (10 * (v : Int) + ((c2.toNat : Int) - 48)) = 10 * (v : Int) + ((c2.toNat : Int) - 48) := IntWalk.i64_in _ (by omega)
                  go_wp2_with fail
                  go_roundg (i + n - (k + 1))
                  case measure => omega
                  case rel => exact ⟨k + 1, v * 10 + (c2.toNat - 48), by omega, by omega, by omega, by go_num, congrArg (Value.int .i64) (by omega), by omega, rfl, hid (by rw [show k + 1 - i = k - i + 1 by omega, HV2.out, ← HV.out])⟩
              · have hkn : k = i + n := by omega
                have HVn : Hid (v = decV 0 (tw.take n)) := hid (by rw [show n = k - i by omega]; exact HV.out)
                have HWk := hid (HW.out v k hkn HVn.out)
                have HLk := hid (HL.out v n HVn.out)
                have hkl : (k : Int) ≤ (s.length : Int) := by omega
                have hst : ∀ c : UInt8, s[k]? = some c → isDig c = false := fun c hc => hstop.out c (by rw [← hkn]; exact hc)
                have h1k : i + 1 ≤ k := by omega
                replace hst := hid hst
                clear hkn hj hjn
                by_cases hks : k < s.length
                · obtain ⟨c2, hc2, -, -⟩ := nth hks
                  have hb2 := byte_at hc2
                  have hd2 := hst.out c2 hc2
                  have hkz : (k : Int) < (s.length : Int) := by omega
                  by_cases g48 : (48 : Int) ≤ (c2.toNat : Int)
                  · have gz : decide ((c2.toNat : Int) ≤ 57) = false := decide_eq_false (fun e => Bool.noConfusion (hd2.symm.trans (isDig_iff.2 ⟨by omega, by omega⟩)))
                    clear hc2 hd2 hb hlt hltz hks
                    by_cases hbig : 65536 < v
                    · have HN := hid (HLk.out hbig)
                      have hvz : (65536 : Int) < (v : Int) := by omega
                      clear hbig
                      go_wp2_with fail
                      go_ret2
                      exact tokPost_none HN.out hB
                    · have HN := hid (HWk.out hbig)
                      have hvz : decide ((65536 : Int) < (v : Int)) = false := decide_eq_false (by omega)
                      clear hbig
                      go_wp2_with (first | (at_builtin; refine append_one w.heap.size rfl _ _ 149 153 (.agg #[.string ⟨#[]⟩, .int .i64 0, .int .u8 0]) 3 32 rfl Tryz.underlying149 info153 rfl (by decide) (by decide) (.slice A ts.length c) ts.length (tcells ts) #[.string ⟨#[]⟩, .int .i64 (v : Int), .int .u8 0] rfl rfl rfl (by intro u hu; simp at hu; rcases hu with rfl | rfl | rfl <;> rfl) hO hbs (by omega) ?_; intro g2 cap2 w3 hO3 hG3 hg3 hbg hlt3) | fail)
                      have hB3 := hB.grown hG3 hbs (fun r e => (hO.lt r e).1)
                      go_roundg (s.length - k)
                      case measure => omega
                      case rel =>
                        refine ⟨k, ts ++ [⟨[], v, 0⟩], some ⟨g2, 0, none⟩, cap2, by omega, by omega, by go_num, by rw [List.length_append]; rfl, hB3, ?_, by rw [List.length_append]; simp only [List.length_cons, List.length_nil]; omega, HN⟩
                        rw [List.length_append, tcells_snoc]
                        exact hO3
                  · have gz : decide ((48 : Int) ≤ (c2.toNat : Int)) = false := decide_eq_false g48
                    clear hc2 hd2 hb g48 hlt hltz hks
                    by_cases hbig : 65536 < v
                    · have HN := hid (HLk.out hbig)
                      have hvz : (65536 : Int) < (v : Int) := by omega
                      clear hbig
                      go_wp2_with fail
                      go_ret2
                      exact tokPost_none HN.out hB
                    · have HN := hid (HWk.out hbig)
                      have hvz : decide ((65536 : Int) < (v : Int)) = false := decide_eq_false (by omega)
                      clear hbig
                      go_wp2_with (first | (at_builtin; refine append_one w.heap.size rfl _ _ 149 153 (.agg #[.string ⟨#[]⟩, .int .i64 0, .int .u8 0]) 3 32 rfl Tryz.underlying149 info153 rfl (by decide) (by decide) (.slice A ts.length c) ts.length (tcells ts) #[.string ⟨#[]⟩, .int .i64 (v : Int), .int .u8 0] rfl rfl rfl (by intro u hu; simp at hu; rcases hu with rfl | rfl | rfl <;> rfl) hO hbs (by omega) ?_; intro g2 cap2 w3 hO3 hG3 hg3 hbg hlt3) | fail)
                      have hB3 := hB.grown hG3 hbs (fun r e => (hO.lt r e).1)
                      go_roundg (s.length - k)
                      case measure => omega
                      case rel =>
                        refine ⟨k, ts ++ [⟨[], v, 0⟩], some ⟨g2, 0, none⟩, cap2, by omega, by omega, by go_num, by rw [List.length_append]; rfl, hB3, ?_, by rw [List.length_append]; simp only [List.length_cons, List.length_nil]; omega, HN⟩
                        rw [List.length_append, tcells_snoc]
                        exact hO3
                · obtain rfl : k = s.length := by omega
                  clear hb hlt hltz hks hkl
                  by_cases hbig : 65536 < v
                  · have HN := hid (HLk.out hbig)
                    have hvz : (65536 : Int) < (v : Int) := by omega
                    clear hbig
                    go_wp2_with fail
                    go_ret2
                    exact tokPost_none HN.out hB
                  · have HN := hid (HWk.out hbig)
                    have hvz : decide ((65536 : Int) < (v : Int)) = false := decide_eq_false (by omega)
                    clear hbig
                    go_wp2_with (first | (at_builtin; refine append_one w.heap.size rfl _ _ 149 153 (.agg #[.string ⟨#[]⟩, .int .i64 0, .int .u8 0]) 3 32 rfl Tryz.underlying149 info153 rfl (by decide) (by decide) (.slice A ts.length c) ts.length (tcells ts) #[.string ⟨#[]⟩, .int .i64 (v : Int), .int .u8 0] rfl rfl rfl (by intro u hu; simp at hu; rcases hu with rfl | rfl | rfl <;> rfl) hO hbs (by omega) ?_; intro g2 cap2 w3 hO3 hG3 hg3 hbg hlt3) | fail)
                    have hB3 := hB.grown hG3 hbs (fun r e => (hO.lt r e).1)
                    go_roundg (s.length - s.length)
                    case measure => omega
                    case rel =>
                      refine ⟨s.length, ts ++ [⟨[], v, 0⟩], some ⟨g2, 0, none⟩, cap2, by omega, by omega, by go_num, by rw [List.length_append]; rfl, hB3, ?_, by rw [List.length_append]; simp only [List.length_cons, List.length_nil]; omega, HN⟩
                      rw [List.length_append, tcells_snoc]
                      exact hO3
          · cases hp : isPun ch with
            | true =>
              have HN := hid (HT.out.pun HC.out hp)
              rcases pun_cases hp with rfl | rfl | rfl | rfl | rfl
              · clear hp HT hlow hd h32 hz32
                go_wp2_with (first | (at_builtin; refine append_one w.heap.size rfl _ _ 149 153 (.agg #[.string ⟨#[]⟩, .int .i64 0, .int .u8 0]) 3 32 rfl Tryz.underlying149 info153 rfl (by decide) (by decide) (.slice A ts.length c) ts.length (tcells ts) #[.string ⟨#[]⟩, .int .i64 0, .int .u8 40] rfl rfl rfl (by intro u hu; simp at hu; rcases hu with rfl | rfl | rfl <;> rfl) hO hbs (by omega) ?_; intro g2 cap2 w3 hO3 hG3 hg3 hbg hlt3) | fail)
                have hB3 := hB.grown hG3 hbs (fun r e => (hO.lt r e).1)
                go_roundg (s.length - (i + 1))
                case measure => omega
                case rel =>
                  refine ⟨(i + 1), ts ++ [⟨[], 0, 40⟩], some ⟨g2, 0, none⟩, cap2, by omega, by omega, by go_num, by rw [List.length_append]; rfl, hB3, ?_, by rw [List.length_append]; simp only [List.length_cons, List.length_nil]; omega, HN⟩
                  rw [List.length_append, tcells_snoc]
                  exact hO3
              · clear hp HT hlow hd h32 hz32
                go_wp2_with (first | (at_builtin; refine append_one w.heap.size rfl _ _ 149 153 (.agg #[.string ⟨#[]⟩, .int .i64 0, .int .u8 0]) 3 32 rfl Tryz.underlying149 info153 rfl (by decide) (by decide) (.slice A ts.length c) ts.length (tcells ts) #[.string ⟨#[]⟩, .int .i64 0, .int .u8 41] rfl rfl rfl (by intro u hu; simp at hu; rcases hu with rfl | rfl | rfl <;> rfl) hO hbs (by omega) ?_; intro g2 cap2 w3 hO3 hG3 hg3 hbg hlt3) | fail)
                have hB3 := hB.grown hG3 hbs (fun r e => (hO.lt r e).1)
                go_roundg (s.length - (i + 1))
                case measure => omega
                case rel =>
                  refine ⟨(i + 1), ts ++ [⟨[], 0, 41⟩], some ⟨g2, 0, none⟩, cap2, by omega, by omega, by go_num, by rw [List.length_append]; rfl, hB3, ?_, by rw [List.length_append]; simp only [List.length_cons, List.length_nil]; omega, HN⟩
                  rw [List.length_append, tcells_snoc]
                  exact hO3
              · clear hp HT hlow hd h32 hz32
                go_wp2_with (first | (at_builtin; refine append_one w.heap.size rfl _ _ 149 153 (.agg #[.string ⟨#[]⟩, .int .i64 0, .int .u8 0]) 3 32 rfl Tryz.underlying149 info153 rfl (by decide) (by decide) (.slice A ts.length c) ts.length (tcells ts) #[.string ⟨#[]⟩, .int .i64 0, .int .u8 44] rfl rfl rfl (by intro u hu; simp at hu; rcases hu with rfl | rfl | rfl <;> rfl) hO hbs (by omega) ?_; intro g2 cap2 w3 hO3 hG3 hg3 hbg hlt3) | fail)
                have hB3 := hB.grown hG3 hbs (fun r e => (hO.lt r e).1)
                go_roundg (s.length - (i + 1))
                case measure => omega
                case rel =>
                  refine ⟨(i + 1), ts ++ [⟨[], 0, 44⟩], some ⟨g2, 0, none⟩, cap2, by omega, by omega, by go_num, by rw [List.length_append]; rfl, hB3, ?_, by rw [List.length_append]; simp only [List.length_cons, List.length_nil]; omega, HN⟩
                  rw [List.length_append, tcells_snoc]
                  exact hO3
              · clear hp HT hlow hd h32 hz32
                go_wp2_with (first | (at_builtin; refine append_one w.heap.size rfl _ _ 149 153 (.agg #[.string ⟨#[]⟩, .int .i64 0, .int .u8 0]) 3 32 rfl Tryz.underlying149 info153 rfl (by decide) (by decide) (.slice A ts.length c) ts.length (tcells ts) #[.string ⟨#[]⟩, .int .i64 0, .int .u8 61] rfl rfl rfl (by intro u hu; simp at hu; rcases hu with rfl | rfl | rfl <;> rfl) hO hbs (by omega) ?_; intro g2 cap2 w3 hO3 hG3 hg3 hbg hlt3) | fail)
                have hB3 := hB.grown hG3 hbs (fun r e => (hO.lt r e).1)
                go_roundg (s.length - (i + 1))
                case measure => omega
                case rel =>
                  refine ⟨(i + 1), ts ++ [⟨[], 0, 61⟩], some ⟨g2, 0, none⟩, cap2, by omega, by omega, by go_num, by rw [List.length_append]; rfl, hB3, ?_, by rw [List.length_append]; simp only [List.length_cons, List.length_nil]; omega, HN⟩
                  rw [List.length_append, tcells_snoc]
                  exact hO3
              · clear hp HT hlow hd h32 hz32
                go_wp2_with (first | (at_builtin; refine append_one w.heap.size rfl _ _ 149 153 (.agg #[.string ⟨#[]⟩, .int .i64 0, .int .u8 0]) 3 32 rfl Tryz.underlying149 info153 rfl (by decide) (by decide) (.slice A ts.length c) ts.length (tcells ts) #[.string ⟨#[]⟩, .int .i64 0, .int .u8 45] rfl rfl rfl (by intro u hu; simp at hu; rcases hu with rfl | rfl | rfl <;> rfl) hO hbs (by omega) ?_; intro g2 cap2 w3 hO3 hG3 hg3 hbg hlt3) | fail)
                have hB3 := hB.grown hG3 hbs (fun r e => (hO.lt r e).1)
                go_roundg (s.length - (i + 1))
                case measure => omega
                case rel =>
                  refine ⟨(i + 1), ts ++ [⟨[], 0, 45⟩], some ⟨g2, 0, none⟩, cap2, by omega, by omega, by go_num, by rw [List.length_append]; rfl, hB3, ?_, by rw [List.length_append]; simp only [List.length_cons, List.length_nil]; omega, HN⟩
                  rw [List.length_append, tcells_snoc]
                  exact hO3
            | false =>
              have HN := hid (HT.out.odd HC.out h32 hlow hd hp)
              have e40 : ((ch.toNat : Int) == 40) = false := beq_eq_false_iff_ne.2 (fun e => by rw [show ch = 40 from UInt8.toNat_inj.1 (by show ch.toNat = 40; omega)] at hp; cases hp)
              have e41 : ((ch.toNat : Int) == 41) = false := beq_eq_false_iff_ne.2 (fun e => by rw [show ch = 41 from UInt8.toNat_inj.1 (by show ch.toNat = 41; omega)] at hp; cases hp)
              have e44 : ((ch.toNat : Int) == 44) = false := beq_eq_false_iff_ne.2 (fun e => by rw [show ch = 44 from UInt8.toNat_inj.1 (by show ch.toNat = 44; omega)] at hp; cases hp)
              have e61 : ((ch.toNat : Int) == 61) = false := beq_eq_false_iff_ne.2 (fun e => by rw [show ch = 61 from UInt8.toNat_inj.1 (by show ch.toNat = 61; omega)] at hp; cases hp)
              have e45 : ((ch.toNat : Int) == 45) = false := beq_eq_false_iff_ne.2 (fun e => by rw [show ch = 45 from UInt8.toNat_inj.1 (by show ch.toNat = 45; omega)] at hp; cases hp)
              have hl2 : ¬ (97 ≤ ch.toNat ∧ ch.toNat ≤ 122) := fun e => by rw [isLow_iff.2 e] at hlow; cases hlow
              clear hp HT hlow h32
              by_cases h97 : (97 : Int) ≤ (ch.toNat : Int)
              · have z1 : decide ((ch.toNat : Int) ≤ 122) = false := decide_eq_false (by omega)
                have z2 : (49 : Int) ≤ (ch.toNat : Int) := by omega
                have z3 : decide ((ch.toNat : Int) ≤ 57) = false := decide_eq_false (by omega)
                clear hl2 hd
                go_wp2_with fail
                go_ret2
                exact tokPost_none HN.out hB
              · have z0 : decide ((97 : Int) ≤ (ch.toNat : Int)) = false := decide_eq_false h97
                by_cases h49 : (49 : Int) ≤ (ch.toNat : Int)
                · have z3 : decide ((ch.toNat : Int) ≤ 57) = false := decide_eq_false (by omega)
                  clear hl2 hd h97
                  go_wp2_with fail
                  go_ret2
                  exact tokPost_none HN.out hB
                · have z2 : decide ((49 : Int) ≤ (ch.toNat : Int)) = false := decide_eq_false h49
                  clear hl2 hd h97 h49
                  go_wp2_with fail
                  go_ret2
                  exact tokPost_none HN.out hB
    · have hltz : ¬ (i : Int) < (s.length : Int) := by omega
      have HE := hid (HT.out.end (by omega))
      go_wp2_with fail
      go_ret2
      exact tokPost_some HE.out hB hO
end Go.Proofs.YtnlobmepajakcaaGreatDoor
