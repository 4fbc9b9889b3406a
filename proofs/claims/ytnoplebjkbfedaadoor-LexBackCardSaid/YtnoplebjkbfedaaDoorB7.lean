/- The lexer's method mark, joined. -/
import Derived.Test.YtnoplebjkbfedaaDoorB6
namespace Go.Proofs.YtnoplebjkbfedaaDoor
open Go Go.RowKit
set_option linter.unusedSimpArgs false
set_option maxRecDepth 100000
theorem mark_c {w : World} {B g : Nat} {s : ByteArray} {st : LxSt} {lv : Value} (gl : Gl B w) (hx : IsLx w B g s st lv) (i : Nat) (hi : st.at_ = i) (hle : i ≤ s.size) (hs : s.size ≤ 70000) (hn : st.toks.length ≤ 1000000) :
    Calls Tryd.prog 28 #[.pointer (some ⟨g, 0, none⟩)] w (MarkOut B g s st lv i w) := by
  cases hE : empB s i with
  | true =>
    have hM : markS s i = some (3, 1, ⟨idxE (pkI s ((i : Int) + 2)) + 1, [], []⟩) := by unfold markS; rw [hE]; rfl
    simp only [empB, Bool.and_eq_true, Bool.not_eq_true'] at hE
    obtain ⟨e0, e1, e2, e3, e4⟩ := hE
    have hsz : i + 3 ≤ s.size := by
      have h2 : pkI s ((i + 2 : Nat) : Int) ≠ 0 := by simpa using e4
      have := pkI_pos h2
      omega
    have hXb : idxE (pkI s ((i : Int) + 2)) < 5 := by
      rcases indexByte_lt (pkI s ((i : Int) + 2)).toNat.toUInt8 [98, 105, 115, 116, 100] with h | ⟨h, _⟩
      · exact h.2
      · cases h
    exact mark_emp gl hx i hi hle hs hn e0 e1 e2 _ hXb e3 e4 rfl hsz (Lib.hid hM)
  | false =>
    have hMf : (pkI s i == 0 || decide (idxM (pkI s i) < 0)) = true → markS s i = none := fun h => by unfold markS; rw [hE, h]; rfl
    have hM1 : (pkI s i == 0 || decide (idxM (pkI s i) < 0)) = false → (pkI s i == 58 && pkI s ((i : Int) + 1) == 58) = false → markS s i = some (1, 6, ⟨0, [], []⟩) := fun h h2 => by unfold markS; rw [hE, h, h2]; rfl
    have hM2 : (pkI s i == 0 || decide (idxM (pkI s i) < 0)) = false → (pkI s i == 58 && pkI s ((i : Int) + 1) == 58) = true → markS s i = some (2, 6, ⟨0, [], []⟩) := fun h h2 => by unfold markS; rw [hE, h, h2]; rfl
    have hsz : pkI s i ≠ 0 → i + 1 ≤ s.size := fun h => pkI_pos h
    have hsz2 : pkI s ((i : Int) + 1) ≠ 0 → i + 2 ≤ s.size := fun h => by
      have h2 : pkI s ((i + 1 : Nat) : Int) ≠ 0 := by simpa using h
      exact pkI_pos h2
    by_cases h40 : pkI s i = 40
    · have hM := hM1 (by rw [h40]; decide) (by rw [h40]; rfl)
      have hs1 := hsz (by omega)
      have z0 : (pkI s (i : Int) == 40) = true := by simpa using h40
      have z1 : (pkI s (i : Int) == 0) = false := by rw [h40]; rfl
      have z2 : (pkI s (i : Int) == 58) = false := by rw [h40]; rfl
      have hY2 : Lib.indexByte [40, 41, 91, 93, 123, 125, 59, 58] (pkI s (i : Int)).toNat.toUInt8 = 0 := by rw [h40]; decide
      cases h1 : (pkI s ((i : Int) + 1) == 41) with
      | false => exact mark_40a gl hx i hi hle hs hn z0 hs1 (Lib.hid hM) z1 z2 hY2 h1
      | true =>
        cases h3 : inI (pkI s ((i : Int) + 3)) with
        | true => exact mark_40b gl hx i hi hle hs hn z0 hs1 (Lib.hid hM) z1 z2 hY2 h1 h3
        | false =>
          have hX : ¬ 0 ≤ idxE (pkI s ((i : Int) + 2)) := fun hge => by
            have hne : (pkI s ((i : Int) + 2) != 0) = true := by
              simp only [bne_iff_ne, ne_eq]
              intro hz
              rw [hz] at hge
              revert hge
              decide
            revert hE
            simp [empB, z0, h1, h3, hge, hne]
          exact mark_40c gl hx i hi hle hs hn z0 hs1 (Lib.hid hM) z1 z2 hY2 h1 h3 _ (Int.not_le.1 hX) rfl
    · have z0 : (pkI s (i : Int) == 40) = false := by simpa using h40
      by_cases h0 : pkI s i = 0
      · exact mark_zero gl hx i hi hle hs hn z0 (by simpa using h0) (Lib.hid (hMf (by rw [h0]; rfl)))
      · have z1 : (pkI s (i : Int) == 0) = false := by simpa using h0
        have hs1 := hsz h0
        by_cases hYn : idxM (pkI s i) < 0
        · exact mark_none gl hx i hi hle hs hn z0 z1 hs1 _ rfl hYn (Lib.hid (hMf (by simp [hYn])))
        · have hc : (pkI s (i : Int) == 0 || decide (idxM (pkI s i) < 0)) = false := by simp [z1, hYn]
          by_cases h58 : pkI s i = 58
          · have z2 : (pkI s (i : Int) == 58) = true := by simpa using h58
            have hY2 : Lib.indexByte [40, 41, 91, 93, 123, 125, 59, 58] (pkI s (i : Int)).toNat.toUInt8 = 7 := by rw [h58]; decide
            cases z3 : (pkI s ((i : Int) + 1) == 58) with
            | true => exact mark_58b gl hx i hi hle hs hn z2 hs1 z0 z1 hY2 (hsz2 (by simp at z3; omega)) z3 (Lib.hid (hM2 hc (by rw [z2, z3]; rfl)))
            | false => exact mark_58a gl hx i hi hle hs hn z2 hs1 z0 z1 hY2 z3 (Lib.hid (hM1 hc (by rw [z2, z3]; rfl)))
          · have z2 : (pkI s (i : Int) == 58) = false := by simpa using h58
            exact mark_one gl hx i hi hle hs hn z0 z1 hs1 _ rfl (Int.not_lt.1 hYn) z2 (Lib.hid (hM1 hc (by rw [z2]; rfl)))
end Go.Proofs.YtnoplebjkbfedaaDoor
