/- Two texts that agree on a token's bytes: the token is the same. Plain Lean. -/
import Derived.Test.YtnoplebjkbfedaaDoorP1
namespace Go.Proofs.YtnoplebjkbfedaaDoor
open Go Go.RowKit
set_option linter.unusedSimpArgs false
set_option linter.unusedVariables false
set_option maxRecDepth 100000
/-- Does a number begin at a place? -/
def numAt (s : ByteArray) (j : Nat) : Prop := dgI (pkI s j) = true ∨ (pkI s j = 45 ∧ dgI (pkI s ((j : Int) + 1)) = true)
theorem numLen_dig {s : ByteArray} {j : Nat} (h : dgI (pkI s j) = true) : numLen s j = runN lnI s j := by
  have hp : numPre s j = 0 := by
    unfold numPre
    rw [if_neg (fun e => by rw [e] at h; revert h; decide)]
  unfold numLen
  simp only [hp, Nat.zero_add, Nat.add_zero]
theorem numLen_neg {s : ByteArray} {j : Nat} (h : pkI s j = 45) : numLen s j = 1 + runN lnI s (j + 1) := by
  have hp : numPre s j = 1 := by
    unfold numPre
    rw [if_pos h]
  unfold numLen
  simp only [hp]
theorem Ag.atNum {s s' : ByteArray} {j j' n : Nat} (h : Ag s j s' j' n) (hn : numLen s j ≤ n) (hj : numAt s j) : numAt s' j' := by
  have hp := (numLen_pos hj).1
  rcases hj with hj | ⟨hj, hj1⟩
  · left
    rw [h.pk0 (by omega)]
    exact hj
  · right
    have : 1 < n := by
      rw [numLen_neg hj] at hn
      have h2 : j + 1 < s.size := by
        have h2 : pkI s ((j + 1 : Nat) : Int) ≠ 0 := by
          have := dgI_pos hj1
          simpa using this
        exact pkI_in h2
      have := runN_pos (p := lnI) h2 (by
        have e : ((j + 1 : Nat) : Int) = (j : Int) + 1 := by omega
        rw [e]
        simp [lnI, inI, hj1])
      omega
    rw [h.pk0 (by omega), h.pk1 this]
    exact ⟨hj, hj1⟩
theorem Ag.lenNum {s s' : ByteArray} {j j' n : Nat} (h : Ag s j s' j' n) (hn : numLen s j ≤ n) (hst : Hid (numLen s j < n ∨ Stop s' (j' + n))) (hj : numAt s j) : numLen s' j' = numLen s j := by
  have hp := (numLen_pos hj).1
  have hst := hst.out
  rcases hj with hj | ⟨hj, hj1⟩
  · have hj' : dgI (pkI s' j') = true := by rw [h.pk0 (by omega)]; exact hj
    rw [numLen_dig hj, numLen_dig hj'] at *
    exact h.run (by decide) hn (hst.elim .inl (fun x => .inr x.ln))
  · have hj' : pkI s' j' = 45 := by rw [h.pk0 (by omega)]; exact hj
    rw [numLen_neg hj, numLen_neg hj'] at *
    have := (h.drop 1 (by omega)).run (p := lnI) (by decide) (by omega) (by
      rcases hst with x | x
      · exact .inl (by omega)
      · right
        rw [show j' + 1 + (n - 1) = j' + n by omega]
        exact x.ln)
    rw [this]
theorem bits_empty : bitsB [] = false := by decide
theorem run_neg {s : ByteArray} {j : Nat} (h : pkI s j = 45) : runN lnI s j = 0 := runN_eq (by decide) (fun k hk => by omega) (by
  have e : ((j + 0 : Nat) : Int) = (j : Int) := by omega
  rw [e, h]; decide)
theorem sub_zero {s : ByteArray} {j : Nat} : (subS s j 0).data.toList = [] := by rw [sub_list]; rfl
theorem Ag.bits {s s' : ByteArray} {j j' n : Nat} (h : Ag s j s' j' n) (hn : numLen s j ≤ n) (hst : Hid (numLen s j < n ∨ Stop s' (j' + n))) (hj : numAt s j) :
    bitsB (subS s' j' (runN lnI s' j')).data.toList = bitsB (subS s j (runN lnI s j)).data.toList := by
  have hp := (numLen_pos hj).1
  have hl := h.lenNum hn hst hj
  rcases hj with hj | ⟨hj, hj1⟩
  · have hj' : dgI (pkI s' j') = true := by rw [h.pk0 (by omega)]; exact hj
    rw [numLen_dig hj, numLen_dig hj'] at *
    rw [hl, (h.take _ hn).sub]
  · have hj' : pkI s' j' = 45 := by rw [h.pk0 (by omega)]; exact hj
    rw [run_neg hj, run_neg hj', sub_zero, sub_zero]
theorem moreS_parts {s : ByteArray} {i k : Nat} (h : moreS s i = some k) : k = i + runN blI s i ∧ runN blI s i ≠ 0 ∧ numAt s k ∧ bitsB (subS s k (runN lnI s k)).data.toList = false := by
  have h1 := (moreS_spec h).2
  have h0 := (moreS_spec h).1
  unfold moreS at h
  simp only at h
  split at h
  · cases h
  · split at h
    · cases h
    · split at h
      · cases h
      · rename_i h2 h3 h4
        injection h with h
        subst h
        exact ⟨rfl, h2, h1, by simpa using h4⟩
theorem moreS_of {s : ByteArray} {i k : Nat} (hk : k = i + runN blI s i) (h0 : runN blI s i ≠ 0) (hn : numAt s k) (hb : bitsB (subS s k (runN lnI s k)).data.toList = false) : moreS s i = some k := by
  rw [hk] at hn hb ⊢
  exact moreS_yes rfl h0 hn hb
theorem numsS_ge {f : Nat} {s : ByteArray} {j : Nat} {T : Int} {N : List Int} {e : Nat} {T' : Int} {N' : List Int} (hj : numAt s j) (hf : s.size < f + j) (h : numsS f s j T N = .ok (e, T', N')) : j + numLen s j ≤ e := by
  have hl := numLen_pos hj
  obtain ⟨f, rfl⟩ : ∃ g, f = g + 1 := ⟨f - 1, by omega⟩
  unfold numsS at h
  simp only at h
  split at h
  · cases h
  · split at h
    · cases h
    · split at h
      · injection h with h
        simp only [Prod.mk.injEq] at h
        omega
      · rename_i k hk
        have hm := moreS_parts hk
        have := numsS_goes (T := (worthV (subS s j (numLen s j)).data.toList).1) (N := N ++ [(worthV (subS s j (numLen s j)).data.toList).2.1]) (f := f) hm.2.2.1 (by have := hm.1; omega)
        rw [h] at this
        simp only [NumsGo] at this
        have := hm.1
        omega
/-- The tokens' worth: how many numbers there are at most, what their type is. -/
theorem numsS_len {f : Nat} {s : ByteArray} : ∀ {j : Nat} {T : Int} {N : List Int} {e : Nat} {T' : Int} {N' : List Int}, numAt s j → s.size < f + j → numsS f s j T N = .ok (e, T', N') → N'.length + j ≤ N.length + e ∧ N' ≠ [] ∧ (T' = 2 ∨ T' = 4 ∨ T' = 5) := by
  induction f with
  | zero =>
    intro j T N e T' N' hj hf h
    have := numLen_pos hj
    omega
  | succ f ih =>
    intro j T N e T' N' hj hf h
    have hl := numLen_pos hj
    unfold numsS at h
    simp only at h
    generalize hwv : worthV (subS s j (numLen s j)).data.toList = wv at h
    obtain ⟨t, m, ok⟩ := wv
    simp only at h
    split at h
    · cases h
    · rename_i hok
      obtain rfl : ok = true := by simpa using hok
      have ht := (worthV_t hwv).1
      split at h
      · cases h
      · split at h
        · injection h with h
          simp only [Prod.mk.injEq] at h
          obtain ⟨rfl, rfl, rfl⟩ := h
          exact ⟨by simp; omega, by simp, ht⟩
        · rename_i k hk
          have hm := moreS_parts hk
          have := ih (j := k) hm.2.2.1 (by have := hm.1; omega) h
          have := hm.1
          simp only [List.length_append, List.length_cons, List.length_nil] at *
          refine ⟨by omega, ?_, ?_⟩
          · exact (ih (j := k) hm.2.2.1 (by omega) h).2.1
          · exact (ih (j := k) hm.2.2.1 (by omega) h).2.2
theorem numsS_move {f : Nat} {s s' : ByteArray} : ∀ {j j' e : Nat} {T T' : Int} {N N' : List Int} {f' : Nat}, numsS f s j T N = .ok (e, T', N') → numAt s j → s.size < f + j → s'.size < f' + j' → Ag s j s' j' (e - j) → Stop s' (j' + (e - j)) → moreS s' (j' + (e - j)) = none →
    numsS f' s' j' T N = .ok (j' + (e - j), T', N') := by
  induction f with
  | zero =>
    intro j j' e T T' N N' f' h hj hf
    have := numLen_pos hj
    omega
  | succ f ih =>
    intro j j' e T T' N N' f' h hj hf hf' hag hst hno
    have hl := numLen_pos hj
    have hag' := hag.le'
    have hge := numsS_ge hj hf h
    obtain ⟨f'', rfl⟩ : ∃ f'', f' = f'' + 1 := ⟨f' - 1, by omega⟩
    have hor : Hid (numLen s j < e - j ∨ Stop s' (j' + (e - j))) := .inr hst
    have hlen := hag.lenNum (by omega) hor hj
    have hsub := (hag.take (numLen s j) (by omega)).sub
    unfold numsS at h ⊢
    simp only at h ⊢
    rw [hlen, hsub]
    generalize worthV (subS s j (numLen s j)).data.toList = wv at h ⊢
    obtain ⟨t, m, ok⟩ := wv
    simp only at h ⊢
    split at h
    · cases h
    · rename_i hok
      rw [if_neg hok]
      split at h
      · cases h
      · rename_i hmix
        rw [if_neg hmix]
        split at h
        · rename_i hm
          injection h with h
          simp only [Prod.mk.injEq] at h
          obtain ⟨rfl, rfl, rfl⟩ := h
          rw [show j + numLen s j - j = numLen s j by omega] at *
          rw [hno]
        · rename_i k hm
          obtain ⟨hk, hr0, hnk, hbk⟩ := moreS_parts hm
          have hl2 := numLen_pos hnk
          have hge2 := numsS_ge hnk (by omega) h
          have hd := hag.drop (numLen s j) (by omega)
          have hrun : runN blI s' (j' + numLen s j) = runN blI s (j + numLen s j) := hd.run (by decide) (by omega) (.inl (by omega))
          have hd2 := hag.drop (k - j) (by omega)
          rw [show j + (k - j) = k by omega] at hd2
          have hor2 : Hid (numLen s k < e - j - (k - j) ∨ Stop s' (j' + (k - j) + (e - j - (k - j)))) := .inr (by
            rw [show j' + (k - j) + (e - j - (k - j)) = j' + (e - j) by omega]
            exact hst)
          have hmore : moreS s' (j' + numLen s j) = some (j' + (k - j)) := moreS_of (by omega) (by rw [hrun]; exact hr0) (hd2.atNum (by omega) hnk) (by rw [hd2.bits (by omega) hor2 hnk]; exact hbk)
          rw [hmore]
          simp only
          have := ih (j := k) (j' := j' + (k - j)) (e := e) (f' := f'') h hnk (by omega) (by omega) (by
            rw [show e - k = e - j - (k - j) by omega]
            exact hd2) (by
            rw [show j' + (k - j) + (e - k) = j' + (e - j) by omega]
            exact hst) (by
            rw [show j' + (k - j) + (e - k) = j' + (e - j) by omega]
            exact hno)
          rw [this]
          rw [show j' + (k - j) + (e - k) = j' + (e - j) by omega]
end Go.Proofs.YtnoplebjkbfedaaDoor
