/- The lexer's method token, and Lex: what they compute. Plain Lean. -/
import Derived.Test.YtnoplebjkbfedaaDoorC1
namespace Go.Proofs.YtnoplebjkbfedaaDoor
open Go Go.RowKit
set_option maxRecDepth 100000
def verbsL : List UInt8 := [43, 45, 42, 37, 33, 38, 124, 60, 62, 61, 126, 44, 94, 35, 95, 63, 64, 36, 46]
def verbB (c : Int) : Bool := (c != 0) && decide (0 ≤ Lib.indexByte verbsL c.toNat.toUInt8)
def advB (c : Int) : Bool := (c == 39) || ((c == 47) || (c == 92))
def addTok (s : ByteArray) (st : LxSt) (i n : Nat) (kind : Int) (text : ByteArray) (v : FV) : LxSt := { st with at_ := ((i + n : Nat) : Int), toks := st.toks ++ [⟨kind, (i : Int), ((i + n : Nat) : Int), text, v⟩] }
def advN (s : ByteArray) (i : Nat) : Nat := if pkI s ((i : Int) + 1) = 58 then 2 else 1
def tokenR (s : ByteArray) (st : LxSt) (i : Nat) : LxEnd LxSt :=
  if dgI (pkI s i) || negB s i st.toks then numeralR s st i
  else if ltI (pkI s i) then .ok (addTok s st i (runN inI s i) 2 (subS s i (runN inI s i)) ⟨0, [], []⟩)
  else if pkI s i = 96 then symsR s st i
  else if pkI s i = 34 then (match quotedS s i with
    | some (b, n) => .ok (addTok s st i n 3 ⟨b.toArray⟩ ⟨0, [], []⟩)
    | none => .error (142, (i : Int)))
  else if verbB (pkI s i) then .ok (addTok s st i 1 4 (subS s i 1) ⟨0, [], []⟩)
  else if advB (pkI s i) then .ok (addTok s st i (advN s i) 5 (subS s i (advN s i)) ⟨0, [], []⟩)
  else match markS s i with
    | some (n, k, v) => .ok (addTok s st i n k (subS s i n) v)
    | none => .error (140, (i : Int))
/-- The tokens from a state on. -/
def lexF : Nat → ByteArray → LxSt → LxEnd (List Tok)
  | 0, _, st => .ok st.toks
  | f + 1, s, st =>
    if st.at_.toNat + runN blI s st.at_.toNat = s.size then .ok st.toks
    else match tokenR s { st with at_ := ((st.at_.toNat + runN blI s st.at_.toNat : Nat) : Int) } (st.at_.toNat + runN blI s st.at_.toNat) with
      | .error e => .error e
      | .ok st' => if 16384 < st'.toks.length then .error (6, ((st.at_.toNat + runN blI s st.at_.toNat : Nat) : Int)) else lexF f s st'
def lexS (s : ByteArray) : LxEnd (List Tok) := if 65536 < s.size then .error (1, 0) else lexF (s.size + 1) s ⟨0, [], 0, 0⟩
/-- How far a method of the lexer may come. -/
def Goes (s : ByteArray) (st : LxSt) (i : Nat) (r : LxEnd LxSt) : Prop := match r with
  | .error (e, _) => e ≠ 0
  | .ok st' => ∃ (n : Nat) (t : Tok), 0 < n ∧ i + n ≤ s.size ∧ st' = { st with at_ := ((i + n : Nat) : Int), toks := st.toks ++ [t] } ∧ t.at_ = i ∧ t.end_ = ((i + n : Nat) : Int)
theorem Goes.add {s : ByteArray} {st : LxSt} {i n : Nat} (h0 : 0 < n) (hn : i + n ≤ s.size) (k : Int) (tx : ByteArray) (v : FV) : Goes s st i (.ok (addTok s st i n k tx v)) :=
  ⟨n, ⟨k, (i : Int), ((i + n : Nat) : Int), tx, v⟩, h0, hn, rfl, rfl, rfl⟩
theorem runN_pos {p : Int → Bool} {s : ByteArray} {i : Nat} (h : i < s.size) (hp : p (pkI s i) = true) : 0 < runN p s i := by
  rcases Nat.eq_zero_or_pos (runN p s i) with h0 | h0
  · have := runN_end p s i (by omega)
    simp only [h0, Nat.add_zero] at this
    rw [pk_at s i h] at hp
    rw [hp] at this
    cases this
  · exact h0
theorem pkI_in {s : ByteArray} {i : Nat} (h : pkI s i ≠ 0) : i < s.size := pkI_pos h
theorem dgI_pos {c : Int} (h : dgI c = true) : c ≠ 0 := by
  unfold dgI at h
  simp at h
  omega
theorem ltI_pos {c : Int} (h : ltI c = true) : c ≠ 0 := by
  unfold ltI at h
  simp at h
  omega
theorem numLen_pos {s : ByteArray} {j : Nat} (h : dgI (pkI s j) = true ∨ (pkI s j = 45 ∧ dgI (pkI s ((j : Int) + 1)) = true)) : 0 < numLen s j ∧ j + numLen s j ≤ s.size := by
  unfold numLen
  rcases h with h | ⟨h, h1⟩
  · have hp : numPre s j = 0 := by
      unfold numPre
      rw [if_neg (fun e => by rw [e] at h; revert h; decide)]
    have hj := pkI_in (dgI_pos h)
    have := runN_pos (p := lnI) hj (by simp [lnI, inI, h])
    have := runN_le lnI s j (by omega)
    simp only [hp, Nat.zero_add, Nat.add_zero]
    omega
  · have hp : numPre s j = 1 := by
      unfold numPre
      rw [if_pos h]
    have hj : j + 1 < s.size := by
      have h2 : pkI s ((j + 1 : Nat) : Int) ≠ 0 := by
        have := dgI_pos h1
        simpa using this
      exact pkI_in h2
    have := runN_le lnI s (j + 1) (by omega)
    simp only [hp]
    omega
theorem moreS_spec {s : ByteArray} {i k : Nat} (h : moreS s i = some k) : i < k ∧ (dgI (pkI s k) = true ∨ (pkI s k = 45 ∧ dgI (pkI s ((k : Int) + 1)) = true)) := by
  unfold moreS at h
  simp only at h
  split at h
  · cases h
  · split at h
    · cases h
    · split at h
      · cases h
      · rename_i h0 h1 _
        injection h with h
        subst h
        refine ⟨by omega, ?_⟩
        generalize dgI (pkI s ((i + runN blI s i : Nat) : Int)) = a at *
        generalize pkI s ((i + runN blI s i : Nat) : Int) = b at *
        generalize dgI (pkI s (((i + runN blI s i : Nat) : Int) + 1)) = c at *
        cases a
        · cases c <;> simp_all
        · exact .inl rfl
def NumsGo (s : ByteArray) (j : Nat) (r : LxEnd (Nat × Int × List Int)) : Prop := match r with
  | .error (e, _) => e ≠ 0
  | .ok (j', _, _) => j < j' ∧ j' ≤ s.size
theorem numsS_goes {f : Nat} {s : ByteArray} : ∀ {j : Nat} {T : Int} {N : List Int}, (dgI (pkI s j) = true ∨ (pkI s j = 45 ∧ dgI (pkI s ((j : Int) + 1)) = true)) → s.size < f + j → NumsGo s j (numsS f s j T N) := by
  induction f with
  | zero =>
    intro j T N h hf
    have := numLen_pos h
    omega
  | succ f ih =>
    intro j T N h hf
    have hl := numLen_pos h
    unfold numsS
    simp only
    split
    · simp [NumsGo]
    · split
      · simp [NumsGo]
      · split
        · simp only [NumsGo]
          omega
        · rename_i k hk
          obtain ⟨h1, h2⟩ := moreS_spec hk
          have := ih (j := k) (T := (worthV (subS s j (numLen s j)).data.toList).1) (N := N ++ [(worthV (subS s j (numLen s j)).data.toList).2.1]) h2 (by omega)
          generalize numsS f s k _ _ = r at *
          rcases r with ⟨e, b⟩ | ⟨j', T', N'⟩
          · exact this
          · simp only [NumsGo] at this ⊢
            omega
theorem negB_spec {s : ByteArray} {i : Nat} {l : List Tok} (h : negB s i l = true) : pkI s i = 45 ∧ dgI (pkI s ((i : Int) + 1)) = true := by
  unfold negB at h
  simp only [Bool.and_eq_true, decide_eq_true_eq] at h
  exact h.1
theorem numeralR_goes {s : ByteArray} {st : LxSt} {i : Nat} (h : dgI (pkI s i) = true ∨ (pkI s i = 45 ∧ dgI (pkI s ((i : Int) + 1)) = true)) (hi : st.at_ = i) : Goes s st i (numeralR s st i) := by
  unfold numeralR
  split
  · rename_i hb
    have hr : 0 < runN lnI s i := by
      rcases Nat.eq_zero_or_pos (runN lnI s i) with h0 | h0
      · rw [h0] at hb
        have : (subS s i 0).data.toList = [] := by
          have := subS_size s i 0 (by have := numLen_pos h; omega)
          exact List.eq_nil_of_length_eq_zero this
        rw [this] at hb
        exact absurd hb (by decide)
      · exact h0
    have hle := runN_le lnI s i (by have := numLen_pos h; omega)
    exact ⟨_, _, hr, hle, rfl, rfl, rfl⟩
  · have hl := numLen_pos h
    have := numsS_goes (f := s.size + 1) (T := 0) (N := []) h (by omega)
    generalize numsS (s.size + 1) s i 0 [] = r at *
    rcases r with ⟨e, b⟩ | ⟨j', T', N'⟩
    · exact this
    · simp only [NumsGo] at this ⊢
      refine ⟨j' - i, ⟨1, (i : Int), (j' : Int), s.extract i j', vAtom ⟨T', N', []⟩⟩, by omega, by omega, ?_, rfl, ?_⟩
      · unfold litTok
        rw [show i + (j' - i) = j' by omega]
      · simp only
        omega
def SymsGo (f : Nat) (s : ByteArray) (j : Nat) (r : LxEnd (Nat × List ByteArray)) : Prop := match r with
  | .error (e, _) => e ≠ 0
  | .ok (j', _) => j ≤ j' ∧ j' ≤ s.size ∧ (pkI s j = 96 → 0 < f → j < j')
theorem symsS_goes {f : Nat} {s : ByteArray} : ∀ {j : Nat} {S : List ByteArray}, j ≤ s.size → SymsGo f s j (symsS f s j S) := by
  induction f with
  | zero =>
    intro j S hj
    simp only [symsS, SymsGo]
    exact ⟨Nat.le_refl _, hj, fun _ h => by omega⟩
  | succ f ih =>
    intro j S hj
    unfold symsS
    split
    · rename_i h96
      have hj1 : j < s.size := pkI_in (by rw [h96]; decide)
      split
      · simp [SymsGo]
      · split
        · rename_i e he
          unfold symRaw at he
          split at he
          · split at he
            · cases he
            · injection he with he
              subst he
              simp [SymsGo]
          · split at he <;> cases he
        · rename_i b n hr
          obtain ⟨hn, _⟩ := symRaw_size hr hj1
          split
          · rename_i e he
            unfold symChk at he
            split at he
            · injection he with he
              subst he
              simp [SymsGo]
            · split at he
              · injection he with he
                subst he
                simp [SymsGo]
              · cases he
          · have := ih (j := j + 1 + n) (S := S ++ [b]) hn
            generalize symsS f s (j + 1 + n) (S ++ [b]) = r at *
            rcases r with ⟨e, b⟩ | ⟨j', S'⟩
            · exact this
            · simp only [SymsGo] at this ⊢
              exact ⟨by omega, by omega, fun _ _ => by omega⟩
    · rename_i h96
      exact ⟨Nat.le_refl _, hj, fun h => absurd h h96⟩
theorem symsR_goes {s : ByteArray} {st : LxSt} {i : Nat} (h : pkI s i = 96) : Goes s st i (symsR s st i) := by
  have hi : i < s.size := pkI_in (by rw [h]; decide)
  unfold symsR
  have := symsS_goes (f := s.size + 1) (S := []) (Nat.le_of_lt hi)
  generalize symsS (s.size + 1) s i [] = r at *
  rcases r with ⟨e, b⟩ | ⟨j', S'⟩
  · exact this
  · simp only [SymsGo] at this ⊢
    have h2 := this.2.2 h (by omega)
    refine ⟨j' - i, ⟨1, (i : Int), (j' : Int), s.extract i j', vAtom ⟨3, [], S'⟩⟩, by omega, by omega, ?_, rfl, ?_⟩
    · rw [show i + (j' - i) = j' by omega]
    · simp only
      omega
theorem markS_goes {s : ByteArray} {i n : Nat} {k : Int} {v : FV} (h : markS s i = some (n, k, v)) : 0 < n ∧ i + n ≤ s.size := by
  unfold markS at h
  split at h
  · rename_i he
    injection h with h
    simp only [Prod.mk.injEq] at h
    obtain ⟨rfl, -⟩ := h
    simp only [empB, Bool.and_eq_true] at he
    have h2 : pkI s ((i + 2 : Nat) : Int) ≠ 0 := by
      have := he.2.2.2.2
      simpa using this
    have := pkI_in h2
    omega
  · split at h
    · cases h
    · rename_i h0
      have h1 : pkI s i ≠ 0 := by
        intro e
        rw [e] at h0
        simp at h0
      have := pkI_in h1
      split at h
      · rename_i h58
        injection h with h
        simp only [Prod.mk.injEq] at h
        obtain ⟨rfl, -⟩ := h
        simp only [Bool.and_eq_true, beq_iff_eq] at h58
        have h2 : pkI s ((i + 1 : Nat) : Int) ≠ 0 := by
          have := h58.2
          have e : ((i + 1 : Nat) : Int) = (i : Int) + 1 := by omega
          rw [e, this]
          decide
        have := pkI_in h2
        omega
      · injection h with h
        simp only [Prod.mk.injEq] at h
        obtain ⟨rfl, -⟩ := h
        omega
theorem tokenR_goes {s : ByteArray} {st : LxSt} {i : Nat} (hi : st.at_ = i) (hlt : i < s.size) : Goes s st i (tokenR s st i) := by
  unfold tokenR
  split
  · rename_i h
    refine numeralR_goes ?_ hi
    simp only [Bool.or_eq_true] at h
    rcases h with h | h
    · exact .inl h
    · exact .inr (negB_spec h)
  · split
    · rename_i h
      exact Goes.add (runN_pos hlt (by simp [inI, h])) (runN_le _ _ _ (Nat.le_of_lt hlt)) _ _ _
    · split
      · rename_i h
        exact symsR_goes h
      · split
        · split
          · rename_i b n h
            have := quotedS_size h hlt
            exact Goes.add (by omega) this.1 _ _ _
          · simp [Goes]
        · split
          · exact Goes.add (by omega) (by omega) _ _ _
          · split
            · refine Goes.add ?_ ?_ _ _ _
              · unfold advN
                split <;> omega
              · unfold advN
                split
                · rename_i h
                  have h2 : pkI s ((i + 1 : Nat) : Int) ≠ 0 := by
                    have e : ((i + 1 : Nat) : Int) = (i : Int) + 1 := by omega
                    rw [e, h]
                    decide
                  have := pkI_in h2
                  omega
                · omega
            · split
              · rename_i n k v h
                have := markS_goes h
                exact Goes.add this.1 this.2 _ _ _
              · simp [Goes]
end Go.Proofs.YtnoplebjkbfedaaDoor
