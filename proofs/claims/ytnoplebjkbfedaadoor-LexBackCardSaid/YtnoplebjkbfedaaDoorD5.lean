/- The lexer's method token, joined. -/
import Derived.Test.YtnoplebjkbfedaaDoorD3
import Derived.Test.YtnoplebjkbfedaaDoorD4
namespace Go.Proofs.YtnoplebjkbfedaaDoor
open Go Go.RowKit
set_option linter.unusedSimpArgs false
set_option linter.unusedVariables false
set_option maxRecDepth 100000
theorem token_c {w : World} {B g : Nat} {s : ByteArray} {st : LxSt} {lv : Value} (gl : Gl B w) (hx : IsLx w B g s st lv) (i : Nat) (hi : st.at_ = i) (hli : i < s.size) (hs : s.size ≤ 65536) (hn : st.toks.length ≤ 1000000) (herr : st.err = 0)
    (hpre : i ≠ 0 → pkI s (i - 1) ≠ 32 → st.toks ≠ []) :
    Calls Tryd.prog 14 #[.pointer (some ⟨g, 0, none⟩)] w (TokOut B g s st lv i w) := by
  cases d0 : dgI (pkI s i) with
  | true => exact token_dig gl hx i hi hli hs hn herr hpre d0 (Lib.hid (by unfold tokenR; rw [if_pos (by rw [d0]; rfl)]))
  | false =>
  cases n0 : negB s i st.toks with
  | true => exact token_neg gl hx i hi hli hs hn herr hpre d0 n0 (Lib.hid (by unfold tokenR; rw [if_pos (by rw [d0, n0]; rfl)]))
  | false =>
  have h1 : ¬(dgI (pkI s i) || negB s i st.toks) = true := by rw [d0, n0]; decide
  cases l0 : ltI (pkI s i) with
  | true => exact token_name gl hx i hi hli hs hn herr hpre d0 n0 l0 (Lib.hid (by unfold tokenR; rw [if_neg h1, if_pos l0]))
  | false =>
  have h2 : ¬ltI (pkI s i) = true := by rw [l0]; decide
  by_cases h96 : pkI s i = 96
  · exact token_sym gl hx i hi hli hs hn herr hpre d0 n0 l0 (by simpa using h96) (Lib.hid (by unfold tokenR; rw [if_neg h1, if_neg h2, if_pos h96]))
  have z96 : (pkI s (i : Int) == 96) = false := by simpa using h96
  by_cases h34 : pkI s i = 34
  · have z34 : (pkI s (i : Int) == 34) = true := by simpa using h34
    cases hq : quotedS s i with
    | none => exact token_text_no gl hx i hi hli hs hn herr hpre d0 n0 l0 z96 z34 hq (Lib.hid (by unfold tokenR; rw [if_neg h1, if_neg h2, if_neg h96, if_pos h34, hq]))
    | some p =>
      obtain ⟨b, n⟩ := p
      exact token_text gl hx i hi hli hs hn herr hpre d0 n0 l0 z96 z34 b n hq (Lib.hid (by unfold tokenR; rw [if_neg h1, if_neg h2, if_neg h96, if_pos h34, hq]))
  have z34 : (pkI s (i : Int) == 34) = false := by simpa using h34
  by_cases hv : verbB (pkI s i) = true
  · have hv' := hv
    unfold verbB at hv'
    simp only [Bool.and_eq_true, decide_eq_true_eq] at hv'
    exact token_verb gl hx i hi hli hs hn herr hpre d0 n0 l0 z96 z34 _ rfl hv'.2 hv'.1 (Lib.hid (by unfold tokenR; rw [if_neg h1, if_neg h2, if_neg h96, if_neg h34, if_pos hv]))
  have hvn : (pkI s (i : Int) != 0) = false ∨ Lib.indexByte [43, 45, 42, 37, 33, 38, 124, 60, 62, 61, 126, 44, 94, 35, 95, 63, 64, 36, 46] (pkI s (i : Int)).toNat.toUInt8 < 0 := by
    unfold verbB at hv
    simp only [Bool.and_eq_true, decide_eq_true_eq, not_and, Int.not_le] at hv
    cases h0 : (pkI s (i : Int) != 0) with
    | false => exact .inl rfl
    | true => exact .inr (hv h0)
  have hadv : ∀ c : Int, c = 39 ∨ c = 47 ∨ c = 92 → pkI s i = c → pkI s (i : Int) ≠ 0 ∧ Lib.indexByte [43, 45, 42, 37, 33, 38, 124, 60, 62, 61, 126, 44, 94, 35, 95, 63, 64, 36, 46] (pkI s (i : Int)).toNat.toUInt8 < 0 := by
    intro c hc h
    rw [h]
    rcases hc with rfl | rfl | rfl <;> decide
  have hT : ∀ c : Int, c = 39 ∨ c = 47 ∨ c = 92 → pkI s i = c → tokenR s st i = .ok (addTok s st i (advN s i) 5 (subS s i (advN s i)) ⟨0, [], []⟩) := by
    intro c hc h
    unfold tokenR
    rw [if_neg h1, if_neg h2, if_neg h96, if_neg h34, if_neg hv, if_pos]
    rw [h]
    rcases hc with rfl | rfl | rfl <;> decide
  have hN : ∀ b, (pkI s ((i : Int) + 1) == 58) = b → advN s i = (if b then 2 else 1) := by
    intro b hb
    unfold advN
    cases b
    · rw [if_neg (by simpa using hb)]; rfl
    · rw [if_pos (by simpa using hb)]; rfl
  have hz2 : (pkI s ((i : Int) + 1) == 58) = true → i + 2 ≤ s.size := by
    intro h
    have h2 : pkI s ((i + 1 : Nat) : Int) ≠ 0 := by
      have e : ((i + 1 : Nat) : Int) = (i : Int) + 1 := by omega
      have h58 : pkI s ((i : Int) + 1) = 58 := by simpa using h
      rw [e, h58]
      decide
    have := pkI_in h2
    omega
  by_cases h39 : pkI s i = 39
  · have za : (pkI s (i : Int) == 39) = true := by simpa using h39
    have ha := hadv 39 (by omega) h39
    have z0 : (pkI s (i : Int) != 0) = true := by simpa using ha.1
    have ht := hT 39 (by omega) h39
    cases z58 : (pkI s ((i : Int) + 1) == 58) with
    | true =>
      rw [hN true z58] at ht
      exact token_adv39_2 gl hx i hi hli hs hn herr hpre d0 n0 l0 z96 z34 _ rfl ha.2 z0 za z58 (hz2 z58) (Lib.hid ht)
    | false =>
      rw [hN false z58] at ht
      exact token_adv39_1 gl hx i hi hli hs hn herr hpre d0 n0 l0 z96 z34 _ rfl ha.2 z0 za z58 (by omega) (Lib.hid ht)
  have za : (pkI s (i : Int) == 39) = false := by simpa using h39
  by_cases h47 : pkI s i = 47
  · have zb : (pkI s (i : Int) == 47) = true := by simpa using h47
    have ha := hadv 47 (by omega) h47
    have z0 : (pkI s (i : Int) != 0) = true := by simpa using ha.1
    have ht := hT 47 (by omega) h47
    cases z58 : (pkI s ((i : Int) + 1) == 58) with
    | true =>
      rw [hN true z58] at ht
      exact token_adv47_2 gl hx i hi hli hs hn herr hpre d0 n0 l0 z96 z34 _ rfl ha.2 z0 za zb z58 (hz2 z58) (Lib.hid ht)
    | false =>
      rw [hN false z58] at ht
      exact token_adv47_1 gl hx i hi hli hs hn herr hpre d0 n0 l0 z96 z34 _ rfl ha.2 z0 za zb z58 (by omega) (Lib.hid ht)
  have zb : (pkI s (i : Int) == 47) = false := by simpa using h47
  by_cases h92 : pkI s i = 92
  · have zc : (pkI s (i : Int) == 92) = true := by simpa using h92
    have ha := hadv 92 (by omega) h92
    have z0 : (pkI s (i : Int) != 0) = true := by simpa using ha.1
    have ht := hT 92 (by omega) h92
    cases z58 : (pkI s ((i : Int) + 1) == 58) with
    | true =>
      rw [hN true z58] at ht
      exact token_adv92_2 gl hx i hi hli hs hn herr hpre d0 n0 l0 z96 z34 _ rfl ha.2 z0 za zb zc z58 (hz2 z58) (Lib.hid ht)
    | false =>
      rw [hN false z58] at ht
      exact token_adv92_1 gl hx i hi hli hs hn herr hpre d0 n0 l0 z96 z34 _ rfl ha.2 z0 za zb zc z58 (by omega) (Lib.hid ht)
  have zc : (pkI s (i : Int) == 92) = false := by simpa using h92
  refine token_mark gl hx i hi hli hs hn herr hpre d0 n0 l0 z96 z34 _ rfl hvn za zb zc (Lib.hid ?_)
  unfold tokenR
  rw [if_neg h1, if_neg h2, if_neg h96, if_neg h34, if_neg hv, if_neg (by simp [advB, h39, h47, h92])]
  rfl
end Go.Proofs.YtnoplebjkbfedaaDoor
