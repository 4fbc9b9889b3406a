/- Two texts that agree on some bytes: what the lexer reads there is the same. Plain Lean. -/
import Derived.Test.YtnoplebjkbfedaaDoorD1
import Derived.Test.YtnoplebjkbfedaaDoorC3
import Derived.Lib.IndexLaws
namespace Go.Proofs.YtnoplebjkbfedaaDoor
open Go Go.RowKit
set_option linter.unusedSimpArgs false
set_option linter.unusedVariables false
set_option maxRecDepth 100000
/-- n bytes from i on in s are those from i' on in s'. -/
structure Ag (s : ByteArray) (i : Nat) (s' : ByteArray) (i' n : Nat) : Prop where
  le : i + n ≤ s.size
  le' : i' + n ≤ s'.size
  eq : ∀ k, k < n → pkI s ((i + k : Nat) : Int) = pkI s' ((i' + k : Nat) : Int)
theorem Ag.drop {s s' : ByteArray} {i i' n : Nat} (h : Ag s i s' i' n) (j : Nat) (hj : j ≤ n) : Ag s (i + j) s' (i' + j) (n - j) :=
  ⟨by have := h.le; omega, by have := h.le'; omega, fun k hk => by have := h.eq (j + k) (by omega); rw [← Nat.add_assoc, ← Nat.add_assoc] at this; exact this⟩
theorem Ag.take {s s' : ByteArray} {i i' n : Nat} (h : Ag s i s' i' n) (m : Nat) (hm : m ≤ n) : Ag s i s' i' m :=
  ⟨by have := h.le; omega, by have := h.le'; omega, fun k hk => h.eq k (by omega)⟩
theorem Ag.pk0 {s s' : ByteArray} {i i' n : Nat} (h : Ag s i s' i' n) (hn : 0 < n) : pkI s' i' = pkI s i := (h.eq 0 hn).symm
theorem Ag.pk1 {s s' : ByteArray} {i i' n : Nat} (h : Ag s i s' i' n) (hn : 1 < n) : pkI s' ((i' : Int) + 1) = pkI s ((i : Int) + 1) := by
  have := h.eq 1 hn
  simpa using this.symm
theorem Ag.get {s s' : ByteArray} {i i' n : Nat} (h : Ag s i s' i' n) (k : Nat) (hk : k < n) : s.data.toList[i + k]? = s'.data.toList[i' + k]? := by
  have h1 := h.eq k hk
  have a : i + k < s.size := by have := h.le; omega
  have b : i' + k < s'.size := by have := h.le'; omega
  rw [pk_at s _ a, pk_at s' _ b] at h1
  have h2 : s[i + k] = s'[i' + k] := UInt8.toNat_inj.1 (by omega)
  rw [List.getElem?_eq_getElem (by simpa using a), List.getElem?_eq_getElem (by simpa using b)]
  simpa [ByteArray.getElem_eq_getElem_data] using h2
theorem sub_list (s : ByteArray) (i n : Nat) : (subS s i n).data.toList = (s.data.toList.drop i).take n := by
  unfold subS
  simp [ByteArray.data_extract, List.take_drop]
theorem Ag.list {s s' : ByteArray} {i i' n : Nat} (h : Ag s i s' i' n) : (s.data.toList.drop i).take n = (s'.data.toList.drop i').take n := by
  apply List.ext_getElem?
  intro k
  by_cases hk : k < n
  · rw [List.getElem?_take, List.getElem?_take, if_pos hk, if_pos hk, List.getElem?_drop, List.getElem?_drop]
    exact h.get k hk
  · rw [List.getElem?_take, List.getElem?_take, if_neg hk, if_neg hk]
theorem Ag.sub {s s' : ByteArray} {i i' n : Nat} (h : Ag s i s' i' n) : subS s' i' n = subS s i n := by
  apply ByteArray.ext
  apply Array.toList_inj.1
  rw [sub_list, sub_list, h.list]
theorem Ag.ext {s s' : ByteArray} {i i' n : Nat} (h : Ag s i s' i' n) : s'.extract i' (i' + n) = s.extract i (i + n) := h.sub
theorem Ag.of_list {s s' : ByteArray} {i i' n : Nat} (hi : i + n ≤ s.size) (hi' : i' + n ≤ s'.size) (h : (s.data.toList.drop i).take n = (s'.data.toList.drop i').take n) : Ag s i s' i' n := by
  refine ⟨hi, hi', fun k hk => ?_⟩
  have h1 := congrArg (fun l => l[k]?) h
  simp only [List.getElem?_take, if_pos hk, List.getElem?_drop] at h1
  have a : i + k < s.size := by omega
  have b : i' + k < s'.size := by omega
  rw [List.getElem?_eq_getElem (by simpa using a), List.getElem?_eq_getElem (by simpa using b)] at h1
  rw [pk_at s _ a, pk_at s' _ b]
  have h2 : s[i + k] = s'[i' + k] := by simpa [ByteArray.getElem_eq_getElem_data] using h1
  rw [h2]
theorem pkI_end {s : ByteArray} {i : Nat} (h : s.size ≤ i) : pkI s i = 0 := by
  unfold pkI
  rw [dif_neg (by omega)]
/-- What stands behind a token when tokens are joined: a blank, or nothing. -/
def Stop (s : ByteArray) (i : Nat) : Prop := pkI s i = 0 ∨ pkI s i = 32
theorem Stop.ln {s : ByteArray} {i : Nat} (h : Stop s i) : lnI (pkI s i) = false := by rcases h with h | h <;> rw [h] <;> decide
theorem Stop.in_ {s : ByteArray} {i : Nat} (h : Stop s i) : inI (pkI s i) = false := by rcases h with h | h <;> rw [h] <;> decide
theorem Stop.dg {s : ByteArray} {i : Nat} (h : Stop s i) : dgI (pkI s i) = false := by rcases h with h | h <;> rw [h] <;> decide
theorem Stop.lt {s : ByteArray} {i : Nat} (h : Stop s i) : ltI (pkI s i) = false := by rcases h with h | h <;> rw [h] <;> decide
theorem Stop.ne {s : ByteArray} {i : Nat} (h : Stop s i) (c : Int) (h0 : c ≠ 0) (h1 : c ≠ 32) : pkI s i ≠ c := by rcases h with h | h <;> rw [h] <;> omega
theorem runN_all {p : Int → Bool} {s : ByteArray} {i k : Nat} (h : k < runN p s i) : p (pkI s ((i + k : Nat) : Int)) = true := by
  obtain ⟨h1, h2⟩ := runN_in p s i k h
  rw [pk_at s _ h1]
  exact h2
theorem runN_stop {p : Int → Bool} (p0 : p 0 = false) (s : ByteArray) (i : Nat) : p (pkI s ((i + runN p s i : Nat) : Int)) = false := by
  by_cases h : i + runN p s i < s.size
  · rw [pk_at s _ h]
    exact runN_end p s i h
  · rw [pkI_end (by omega)]
    exact p0
theorem runN_eq {p : Int → Bool} (p0 : p 0 = false) {s : ByteArray} {i m : Nat} (ha : ∀ k, k < m → p (pkI s ((i + k : Nat) : Int)) = true) (he : p (pkI s ((i + m : Nat) : Int)) = false) : runN p s i = m := by
  rcases Nat.lt_trichotomy (runN p s i) m with h | h | h
  · have := ha _ h
    rw [runN_stop p0] at this
    cases this
  · exact h
  · have := runN_all h
    rw [he] at this
    cases this
theorem Ag.run {p : Int → Bool} (p0 : p 0 = false) {s s' : ByteArray} {i i' n : Nat} (h : Ag s i s' i' n) (hr : runN p s i ≤ n) (hs : runN p s i < n ∨ p (pkI s' ((i' + n : Nat) : Int)) = false) : runN p s' i' = runN p s i := by
  refine runN_eq p0 (fun k hk => ?_) ?_
  · rw [← h.eq k (by omega)]
    exact runN_all hk
  · by_cases e : runN p s i < n
    · rw [← h.eq _ e]
      exact runN_stop p0 s i
    · rcases hs with hs | hs
      · exact absurd hs e
      · rw [show runN p s i = n by omega]
        exact hs
theorem indexByte_at : ∀ {l : List UInt8} {c : UInt8} {o : Nat}, l[o]? = some c → (∀ k, k < o → l[k]? ≠ some c) → Lib.indexByte l c = o
  | [], c, o, h, _ => by simp at h
  | b :: l, c, 0, h, _ => by
    simp at h
    simp [Lib.indexByte, h]
  | b :: l, c, o + 1, h, hk => by
    have h0 : b ≠ c := by
      have := hk 0 (by omega)
      simpa using this
    have ih := indexByte_at (l := l) (c := c) (o := o) (by simpa using h) (fun k hk' => by have := hk (k + 1) (by omega); simpa using this)
    unfold Lib.indexByte
    rw [if_neg (by simpa using h0), ih]
    simp
theorem Ag.quoted {s s' : ByteArray} {i i' n : Nat} {b : List UInt8} (h : Ag s i s' i' n) (hq : quotedS s i = some (b, n)) : quotedS s' i' = some (b, n) := by
  unfold quotedS at hq ⊢
  split at hq
  · rename_i h0
    obtain ⟨k, hk⟩ := Int.eq_ofNat_of_zero_le h0
    rw [hk] at hq
    rw [Option.map_eq_some_iff] at hq
    obtain ⟨b', hb, hbn⟩ := hq
    simp only [Prod.mk.injEq, Int.toNat_natCast] at hbn hb
    obtain ⟨rfl, rfl⟩ := hbn
    obtain ⟨h1, h2⟩ := Lib.indexByte_some hk
    have hg : ∀ j, j ≤ k → (s'.data.toList.drop (i' + 1))[j]? = (s.data.toList.drop (i + 1))[j]? := by
      intro j hj
      rw [List.getElem?_drop, List.getElem?_drop]
      have := h.get (1 + j) (by omega)
      rw [← Nat.add_assoc, ← Nat.add_assoc] at this
      exact this.symm
    have h3 : Lib.indexByte (s'.data.toList.drop (i' + 1)) 34 = (k : Int) := indexByte_at (by rw [hg k (Nat.le_refl _)]; exact h1) (fun j hj => by rw [hg j (by omega)]; exact h2 j hj)
    rw [h3, if_pos (by omega)]
    simp only [Int.toNat_natCast]
    have he := h.ext
    rw [← Nat.add_assoc, ← Nat.add_assoc] at he
    rw [he, hb]
    rfl
  · cases hq
theorem quotedS_text {s : ByteArray} {i n : Nat} {b : List UInt8} (hq : quotedS s i = some (b, n)) : quoteL b = (subS s i n).data.toList := by
  unfold quotedS at hq
  split at hq
  · rw [Option.map_eq_some_iff] at hq
    obtain ⟨b', hb, hbn⟩ := hq
    simp only [Prod.mk.injEq] at hbn
    obtain ⟨rfl, rfl⟩ := hbn
    unfold unqL at hb
    split at hb
    · cases hb
    · split at hb
      · split at hb
        · rename_i he
          injection hb with hb
          subst hb
          exact he
        · cases hb
      · cases hb
  · cases hq
theorem symRaw_move {s s' : ByteArray} {j j' n m : Nat} {b : ByteArray} (h : Ag s j s' j' n) (hm : 1 + m ≤ n) (hst : 1 + m < n ∨ Stop s' (j' + n)) (hr : symRaw s j = .ok (b, m)) : symRaw s' j' = .ok (b, m) := by
  unfold symRaw at hr ⊢
  have hlast : ¬ 1 < n → Stop s' (j' + 1) := fun hn => by
    rcases hst with h' | h'
    · omega
    · rw [show n = 1 by omega] at h'; exact h'
  split at hr
  · rename_i h34
    split at hr
    · rename_i b' n' hq
      injection hr with hr
      simp only [Prod.mk.injEq] at hr
      obtain ⟨rfl, rfl⟩ := hr
      have hjs : j < s.size := by
        have := h.le
        omega
      have hj1 : j + 1 < s.size := by
        have h2 : pkI s ((j + 1 : Nat) : Int) ≠ 0 := by
          have e : ((j + 1 : Nat) : Int) = (j : Int) + 1 := by omega
          rw [e, h34]; decide
        exact pkI_in h2
      have hq2 := (quotedS_size hq hj1).2.1
      rw [h.pk1 (by omega), if_pos h34]
      have h1 := (h.drop 1 (by omega)).take n' (by omega)
      rw [h1.quoted hq]
    · cases hr
  · rename_i h34
    split at hr
    · rename_i hlt
      injection hr with hr
      simp only [Prod.mk.injEq] at hr
      obtain ⟨rfl, rfl⟩ := hr
      have hpos : 0 < runN lnI s (j + 1) := by
        have hj1 : j + 1 < s.size := by
          have h2 : pkI s ((j + 1 : Nat) : Int) ≠ 0 := by
            have := ltI_pos hlt
            simpa using this
          exact pkI_in h2
        exact runN_pos hj1 (by
          have e : ((j + 1 : Nat) : Int) = (j : Int) + 1 := by omega
          rw [e]
          simp [lnI, inI, hlt])
      rw [h.pk1 (by omega), if_neg h34, if_pos hlt]
      have h1 := h.drop 1 (by omega)
      have h2 := h1.run (p := lnI) (by decide) (by omega) (by
        rcases hst with h' | h'
        · exact .inl (by omega)
        · refine .inr ?_
          rw [show j' + 1 + (n - 1) = j' + n by omega]
          exact h'.ln)
      rw [h2, (h1.take _ (by omega)).sub]
    · rename_i hlt
      injection hr with hr
      simp only [Prod.mk.injEq] at hr
      obtain ⟨rfl, rfl⟩ := hr
      have e : ((j' + 1 : Nat) : Int) = (j' : Int) + 1 := by omega
      by_cases hn : 1 < n
      · rw [h.pk1 hn, if_neg h34, if_neg hlt]
      · have hs := hlast hn
        have h5 := hs.ne 34 (by decide) (by decide)
        have h6 := hs.lt
        rw [e] at h5 h6
        rw [if_neg h5, if_neg (by rw [h6]; decide)]
theorem symChk_none {b : ByteArray} {j j' : Nat} (h : symChk b j = none) : symChk b j' = none := by
  unfold symChk at h ⊢
  split at h
  · cases h
  · rename_i h1
    split at h
    · cases h
    · rename_i h2
      rw [if_neg h1, if_neg h2]
theorem symsS_move {f : Nat} {s s' : ByteArray} : ∀ {j j' e : Nat} {S S' : List ByteArray} {f' : Nat}, symsS f s j S = .ok (e, S') → j ≤ s.size → s.size < f + j → s'.size < f' + j' → Ag s j s' j' (e - j) → Stop s' (j' + (e - j)) → symsS f' s' j' S = .ok (j' + (e - j), S') := by
  induction f with
  | zero =>
    intro j j' e S S' f' h hj hf
    omega
  | succ f ih =>
    intro j j' e S S' f' h hj hf hf' hag hst
    have hag' := hag.le'
    obtain ⟨f'', rfl⟩ : ∃ f'', f' = f'' + 1 := ⟨f' - 1, by omega⟩
    unfold symsS at h ⊢
    split at h
    · rename_i h96
      have hjs : j < s.size := pkI_in (by rw [h96]; decide)
      split at h
      · cases h
      · rename_i hmax
        split at h
        · cases h
        · rename_i b m hraw
          split at h
          · cases h
          · rename_i hchk
            obtain ⟨hm, _⟩ := symRaw_size hraw hjs
            have hgo := symsS_goes (f := f) (S := S ++ [b]) hm
            rw [h] at hgo
            simp only [SymsGo] at hgo
            have hraw' := symRaw_move hag (by omega) (by
              by_cases hlt : 1 + m < e - j
              · exact .inl hlt
              · exact .inr hst) hraw
            rw [hag.pk0 (by omega), if_pos h96, if_neg hmax, hraw']
            simp only [symChk_none (j' := j') hchk]
            have := ih (j := j + 1 + m) (j' := j' + 1 + m) (e := e) (f' := f'') h hm (by omega) (by omega) (by
              have := hag.drop (1 + m) (by omega)
              rw [← Nat.add_assoc, ← Nat.add_assoc] at this
              rw [show e - (j + 1 + m) = e - j - (1 + m) by omega]
              exact this) (by
              rw [show j' + 1 + m + (e - (j + 1 + m)) = j' + (e - j) by omega]
              exact hst)
            rw [this]
            rw [show j' + 1 + m + (e - (j + 1 + m)) = j' + (e - j) by omega]
    · injection h with h
      simp only [Prod.mk.injEq] at h
      obtain ⟨rfl, rfl⟩ := h
      rw [Nat.sub_self, Nat.add_zero] at hst ⊢
      rw [if_neg (hst.ne 96 (by decide) (by decide))]
      rfl
end Go.Proofs.YtnoplebjkbfedaaDoor
