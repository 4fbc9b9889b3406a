/- A token stays the token that it was where tokens are joined by blanks. Plain Lean. -/
import Derived.Test.YtnoplebjkbfedaaDoorP2
import Derived.Test.YtnoplebjkbfedaaDoorE3
namespace Go.Proofs.YtnoplebjkbfedaaDoor
open Go Go.RowKit
set_option linter.unusedSimpArgs false
set_option linter.unusedVariables false
set_option maxRecDepth 100000
/-- A number, or bools, or an empty vector of such. -/
def numT (t : Tok) : Prop := t.kind = 1 ∧ symT t.v.T = false
def moved (t : Tok) (i n : Nat) : Tok := { t with at_ := (i : Int), end_ := ((i + n : Nat) : Int) }
/-- What is known of a token of n bytes that stands at i. -/
structure TokAt (s : ByteArray) (i n : Nat) (t : Tok) : Prop where
  pos : 0 < n
  le : i + n ≤ s.size
  txt : joinTxt t = (subS s i n).data.toList
  tsz : t.text.size ≤ n
  nsz : t.v.N.length ≤ n
  ssz : t.v.S.length ≤ n
  dig : dgI (pkI s i) = true → numT t
  neg : pkI s i = 45 → numT t ∨ n = 1
  mv : ∀ (s' : ByteArray) (i' : Nat) (st : LxSt), Ag s i s' i' n → (i' = 0 ∨ pkI s' ((i' : Int) - 1) = 32) → Stop s' (i' + n) → (numT t → moreS s' (i' + n) = none) →
    tokenR s' st i' = .ok { st with at_ := ((i' + n : Nat) : Int), toks := st.toks ++ [moved t i' n] }
theorem negB_true {s : ByteArray} {i : Nat} {l : List Tok} (h : pkI s i = 45) (h1 : dgI (pkI s ((i : Int) + 1)) = true) (h2 : i = 0 ∨ pkI s ((i : Int) - 1) = 32) : negB s i l = true := by
  unfold negB
  rw [h, h1]
  rcases h2 with h2 | h2
  · rw [decide_eq_true h2]
    rfl
  · rw [h2]
    simp
theorem negB_false1 {s : ByteArray} {i : Nat} {l : List Tok} (h : pkI s i ≠ 45) : negB s i l = false := by
  unfold negB
  simp [h]
theorem negB_false2 {s : ByteArray} {i : Nat} {l : List Tok} (h : dgI (pkI s ((i : Int) + 1)) = false) : negB s i l = false := by
  unfold negB
  simp [h]
theorem dg_ne45 {c : Int} (h : dgI c = true) : c ≠ 45 := by
  rintro rfl
  revert h
  decide
theorem joinTxt_of {t : Tok} (h : t.kind ≠ 3) : joinTxt t = t.text.data.toList := by unfold joinTxt; rw [if_neg h]
theorem vAtom_N (v : FV) : (vAtom v).N = v.N ∧ (vAtom v).S = v.S := by
  unfold vAtom
  split <;> exact ⟨rfl, rfl⟩
theorem symT_neg (a : Int) : symT (-a) = symT a := by
  unfold symT
  rw [Bool.eq_iff_iff]
  simp only [Bool.or_eq_true, beq_iff_eq]
  omega
theorem vAtom_sym (v : FV) : symT (vAtom v).T = symT v.T := by
  unfold vAtom
  split
  · show symT (-v.T) = symT v.T
    exact symT_neg v.T
  · rfl
theorem takeW_len (l : List UInt8) (cs : List UInt8) : (Lib.trimSuffix l cs).length ≤ l.length := Lib.trimSuffix_le l cs
set_option maxHeartbeats 1000000 in
theorem num_tokAt {s : ByteArray} {st st1 : LxSt} {i : Nat} (hi : st.at_ = i) (hlt : i < s.size) (hc : (dgI (pkI s i) || negB s i st.toks) = true) (h : tokenR s st i = .ok st1) :
    ∃ n t, st1 = { st with at_ := ((i + n : Nat) : Int), toks := st.toks ++ [t] } ∧ t.at_ = i ∧ t.end_ = ((i + n : Nat) : Int) ∧ TokAt s i n t := by
  have hna : numAt s i := by
    simp only [Bool.or_eq_true] at hc
    rcases hc with h | h
    · exact .inl h
    · exact .inr (negB_spec h)
  have hl := numLen_pos hna
  have hcond : ∀ (s' : ByteArray) (i' : Nat) (st' : LxSt) (n : Nat), numLen s i ≤ n → Ag s i s' i' n → (i' = 0 ∨ pkI s' ((i' : Int) - 1) = 32) → (dgI (pkI s' i') || negB s' i' st'.toks) = true := by
    intro s' i' st' n hn hag hb
    rcases hag.atNum hn hna with h | h
    · simp [h]
    · simp [negB_true h.1 h.2 hb]
  unfold tokenR at h
  rw [if_pos hc] at h
  unfold numeralR at h
  split at h
  · rename_i hb
    injection h with h
    unfold litTok at h
    have hdg : dgI (pkI s i) = true := by
      rcases hna with h | ⟨h, _⟩
      · exact h
      · rw [run_neg h, sub_zero, bits_empty] at hb
        cases hb
    have hnl := numLen_dig hdg
    have hszs := subS_size s i (runN lnI s i) (by omega)
    suffices key : TokAt s i (runN lnI s i) ⟨1, (i : Int), ((i + runN lnI s i : Nat) : Int), s.extract i (i + runN lnI s i), vAtom ⟨1, (bitsOf s i).map (fun c => (c.toNat : Int) - 48), []⟩⟩ by
      generalize bitsOf s i = bo at h key
      generalize runN lnI s i = r at h key
      exact ⟨r, _, h.symm, rfl, rfl, key⟩
    have hbl : (bitsOf s i).length ≤ runN lnI s i := by
      unfold bitsOf
      refine Nat.le_trans (Lib.trimSuffix_le _ _) ?_
      rw [show (subS s i (runN lnI s i)).data.toList.length = (subS s i (runN lnI s i)).size from rfl, hszs]
      exact Nat.le_refl _
    have hnt : numT ⟨1, (i : Int), ((i + runN lnI s i : Nat) : Int), s.extract i (i + runN lnI s i), vAtom ⟨1, (bitsOf s i).map (fun c => (c.toNat : Int) - 48), []⟩⟩ := ⟨rfl, by show symT (vAtom _).T = false; rw [vAtom_sym]; rfl⟩
    refine ⟨by omega, by omega, joinTxt_of (by show (1 : Int) ≠ 3; decide), ?_, ?_, ?_, fun _ => hnt, fun _ => .inl hnt, ?_⟩
    · show (subS s i (runN lnI s i)).size ≤ _
      omega
    · simp only [(vAtom_N _).1, List.length_map]
      exact hbl
    · simp [(vAtom_N _).2]
    · intro s' i' st' hag hb' hst hno
      have hr : runN lnI s' i' = runN lnI s i := hag.run (by decide) (Nat.le_refl _) (.inr hst.ln)
      unfold tokenR
      rw [if_pos (hcond s' i' st' _ (by omega) hag hb')]
      unfold numeralR
      have hsub : subS s' i' (runN lnI s i) = subS s i (runN lnI s i) := hag.sub
      rw [hr, hsub, if_pos hb]
      have hbo : bitsOf s' i' = bitsOf s i := by unfold bitsOf; rw [hr, hsub]
      rw [hbo]
      unfold litTok moved
      rw [hag.ext]
  · rename_i hb
    split at h
    · rename_i j T N hnum
      injection h with h
      have hge := numsS_ge hna (by omega) hnum
      have hgo := numsS_goes (T := 0) (N := []) hna (by omega : s.size < s.size + 1 + i)
      rw [hnum] at hgo
      simp only [NumsGo] at hgo
      obtain ⟨hlen, hne, hT⟩ := numsS_len hna (by omega) hnum
      simp only [List.length_nil, Nat.zero_add] at hlen
      have hjn : i + (j - i) = j := by omega
      have hszs := subS_size s i (j - i) (by omega)
      have hnt : numT ⟨1, (i : Int), (j : Int), s.extract i j, vAtom ⟨T, N, []⟩⟩ := ⟨rfl, by show symT (vAtom _).T = false; rw [vAtom_sym]; rcases hT with rfl | rfl | rfl <;> rfl⟩
      refine ⟨j - i, ⟨1, (i : Int), (j : Int), s.extract i j, vAtom ⟨T, N, []⟩⟩, ?_, rfl, by rw [hjn], by omega, by omega, ?_, ?_, ?_, ?_, fun _ => hnt, fun _ => .inl hnt, ?_⟩
      · rw [← h, hjn]; rfl
      · rw [joinTxt_of (by show (1 : Int) ≠ 3; decide)]
        unfold subS
        rw [hjn]
      · show (s.extract i j).size ≤ _
        rw [← hjn]
        unfold subS at hszs
        omega
      · simp only [(vAtom_N _).1]
        omega
      · simp [(vAtom_N _).2]
      · intro s' i' st' hag hb' hst hno
        have hor : Hid (numLen s i < j - i ∨ Stop s' (i' + (j - i))) := .inr hst
        unfold tokenR
        rw [if_pos (hcond s' i' st' _ (by omega) hag hb')]
        unfold numeralR
        have hle' := hag.le'
        rw [hag.bits (by omega) hor hna, if_neg hb, numsS_move hnum hna (by omega) (by omega) hag hst (hno hnt)]
        simp only
        unfold litTok moved
        rw [hag.ext, hjn]
    · cases h
theorem sym_tokAt {s : ByteArray} {st st1 : LxSt} {i : Nat} (hi : st.at_ = i) (hlt : i < s.size) (h1 : ¬(dgI (pkI s i) || negB s i st.toks) = true) (h2 : ¬ltI (pkI s i) = true) (h96 : pkI s i = 96) (h : tokenR s st i = .ok st1) :
    ∃ n t, st1 = { st with at_ := ((i + n : Nat) : Int), toks := st.toks ++ [t] } ∧ t.at_ = i ∧ t.end_ = ((i + n : Nat) : Int) ∧ TokAt s i n t := by
  unfold tokenR at h
  rw [if_neg h1, if_neg h2, if_pos h96] at h
  unfold symsR at h
  split at h
  · rename_i j S hs
    injection h with h
    have hgo := symsS_goes (f := s.size + 1) (S := []) (Nat.le_of_lt hlt)
    rw [hs] at hgo
    simp only [SymsGo] at hgo
    have hij := hgo.2.2 h96 (by omega)
    have hjn : i + (j - i) = j := by omega
    have hszs := subS_size s i (j - i) (by omega)
    have hlenS : S.length ≤ j - i := by
      have key : ∀ (f : Nat) (a e : Nat) (A E : List ByteArray), a ≤ s.size → symsS f s a A = .ok (e, E) → E.length + a ≤ A.length + e := by
        intro f
        induction f with
        | zero =>
          intro a e A E _ h
          simp only [symsS] at h
          injection h with h
          simp only [Prod.mk.injEq] at h
          obtain ⟨rfl, rfl⟩ := h
          exact Nat.le_refl _
        | succ f ih =>
          intro a e A E ha h
          unfold symsS at h
          split at h
          · rename_i h96
            have has : a < s.size := pkI_in (by rw [h96]; decide)
            split at h
            · cases h
            · split at h
              · cases h
              · rename_i b m hraw
                split at h
                · cases h
                · have hm := (symRaw_size hraw has).1
                  have := ih _ _ _ _ hm h
                  simp only [List.length_append, List.length_cons, List.length_nil] at this
                  omega
          · injection h with h
            simp only [Prod.mk.injEq] at h
            obtain ⟨rfl, rfl⟩ := h
            exact Nat.le_refl _
      have := key _ _ _ _ _ (Nat.le_of_lt hlt) hs
      simp only [List.length_nil, Nat.zero_add] at this
      omega
    refine ⟨j - i, ⟨1, (i : Int), (j : Int), s.extract i j, vAtom ⟨3, [], S⟩⟩, ?_, rfl, by rw [hjn], by omega, by omega, ?_, ?_, ?_, ?_, ?_, ?_, ?_⟩
    · rw [← h, hjn]
    · rw [joinTxt_of (by show (1 : Int) ≠ 3; decide)]
      unfold subS
      rw [hjn]
    · show (s.extract i j).size ≤ _
      rw [← hjn]
      unfold subS at hszs
      omega
    · simp [(vAtom_N _).1]
    · simp only [(vAtom_N _).2]
      exact hlenS
    · intro hd
      rw [h96] at hd
      exact absurd hd (by decide)
    · intro hd
      rw [h96] at hd
      exact absurd hd (by decide)
    · intro s' i' st' hag hb' hst hno
      have hp0 := hag.pk0 (by omega)
      have hle' := hag.le'
      unfold tokenR
      rw [hp0, h96, negB_false1 (by rw [hp0, h96]; decide), if_neg (by decide), if_neg (by decide), if_pos rfl]
      unfold symsR
      rw [symsS_move hs (Nat.le_of_lt hlt) (by omega) (by omega) hag hst]
      simp only
      unfold moved
      rw [hag.ext, hjn]
  · cases h
theorem plain_tokAt {s : ByteArray} {i n : Nat} {k : Int} {text : ByteArray} {v : FV} (hn : 0 < n) (hle : i + n ≤ s.size) (htx : joinTxt ⟨k, (i : Int), ((i + n : Nat) : Int), text, v⟩ = (subS s i n).data.toList) (htz : text.size ≤ n) (hN : v.N = []) (hS : v.S = [])
    (hd : dgI (pkI s i) = false) (h45 : pkI s i = 45 → n = 1)
    (hmv : ∀ (s' : ByteArray) (i' : Nat) (st : LxSt), Ag s i s' i' n → Stop s' (i' + n) → (dgI (pkI s' i') || negB s' i' st.toks) = false → tokenR s' st i' = .ok (addTok s' st i' n k text v)) : TokAt s i n ⟨k, (i : Int), ((i + n : Nat) : Int), text, v⟩ := by
  refine ⟨hn, hle, htx, htz, by simp [hN], by simp [hS], fun h => (by rw [hd] at h; cases h), fun h => .inr (h45 h), ?_⟩
  intro s' i' st hag hb hst hno
  have hp0 := hag.pk0 hn
  have hc : (dgI (pkI s' i') || negB s' i' st.toks) = false := by
    rw [hp0, hd, Bool.false_or]
    by_cases h : pkI s i = 45
    · have h1 := h45 h
      subst h1
      apply negB_false2
      have := hst.dg
      simpa using this
    · exact negB_false1 (by rw [hp0]; exact h)
  rw [hmv s' i' st hag hst hc]
  rfl
theorem tok_tokAt {s : ByteArray} {st st1 : LxSt} {i : Nat} (hi : st.at_ = i) (hlt : i < s.size) (h : tokenR s st i = .ok st1) :
    ∃ n t, st1 = { st with at_ := ((i + n : Nat) : Int), toks := st.toks ++ [t] } ∧ t.at_ = i ∧ t.end_ = ((i + n : Nat) : Int) ∧ TokAt s i n t := by
  by_cases hc : (dgI (pkI s i) || negB s i st.toks) = true
  · exact num_tokAt hi hlt hc h
  have hd : dgI (pkI s i) = false := by
    cases hq : dgI (pkI s i)
    · rfl
    · rw [hq] at hc; exact absurd rfl hc
  by_cases hl : ltI (pkI s i) = true
  · have ht := h
    unfold tokenR at ht
    rw [if_neg hc, if_pos hl] at ht
    injection ht with ht
    have hr := runN_pos (p := inI) hlt (by simp [inI, hl])
    have hrl := runN_le inI s i (by omega)
    refine ⟨_, _, ht.symm, rfl, rfl, plain_tokAt hr hrl (joinTxt_of (by show (2 : Int) ≠ 3; decide)) (by rw [subS_size _ _ _ hrl]; exact Nat.le_refl _) rfl rfl hd (fun h45 => by rw [h45] at hl; exact absurd hl (by decide)) ?_⟩
    intro s' i' st' hag hst hc'
    have hp0 := hag.pk0 hr
    have hr' : runN inI s' i' = runN inI s i := hag.run (by decide) (Nat.le_refl _) (.inr hst.in_)
    unfold tokenR
    rw [if_neg (by rw [hc']; decide), if_pos (by rw [hp0]; exact hl), hr', hag.sub]
  by_cases h96 : pkI s i = 96
  · exact sym_tokAt hi hlt hc hl h96 h
  by_cases h34 : pkI s i = 34
  · have ht := h
    unfold tokenR at ht
    rw [if_neg hc, if_neg hl, if_neg h96, if_pos h34] at ht
    split at ht
    · rename_i b n hq
      injection ht with ht
      have hq2 := quotedS_size hq hlt
      refine ⟨_, _, ht.symm, rfl, rfl, plain_tokAt (by omega) hq2.1 ?_ ?_ rfl rfl hd (fun h45 => by omega) ?_⟩
      · unfold joinTxt
        rw [if_pos rfl]
        exact quotedS_text hq
      · show (b.toArray).size ≤ n
        simp
        exact hq2.2.2
      · intro s' i' st' hag hst hc'
        have hp0 := hag.pk0 (by omega)
        unfold tokenR
        rw [if_neg (by rw [hc']; decide), hp0, if_neg hl, if_neg h96, if_pos h34, hag.quoted hq]
    · cases ht
  by_cases hv : verbB (pkI s i) = true
  · have ht := h
    unfold tokenR at ht
    rw [if_neg hc, if_neg hl, if_neg h96, if_neg h34, if_pos hv] at ht
    injection ht with ht
    have h1 : (subS s i 1).size = 1 := subS_size _ _ _ (by omega)
    refine ⟨_, _, ht.symm, rfl, rfl, plain_tokAt (by omega) (by omega) (joinTxt_of (by show (4 : Int) ≠ 3; decide)) (by omega) rfl rfl hd (fun _ => rfl) ?_⟩
    intro s' i' st' hag hst hc'
    have hp0 := hag.pk0 (by omega)
    unfold tokenR
    rw [if_neg (by rw [hc']; decide), hp0, if_neg hl, if_neg h96, if_neg h34, if_pos hv, hag.sub]
  by_cases ha : advB (pkI s i) = true
  · have ht := h
    unfold tokenR at ht
    rw [if_neg hc, if_neg hl, if_neg h96, if_neg h34, if_neg hv, if_pos ha] at ht
    injection ht with ht
    have hn : 0 < advN s i ∧ i + advN s i ≤ s.size := by
      unfold advN
      split
      · rename_i h58
        have h2 : pkI s ((i + 1 : Nat) : Int) ≠ 0 := by
          have e : ((i + 1 : Nat) : Int) = (i : Int) + 1 := by omega
          rw [e, h58]; decide
        have := pkI_in h2
        omega
      · omega
    refine ⟨_, _, ht.symm, rfl, rfl, plain_tokAt hn.1 hn.2 (joinTxt_of (by show (5 : Int) ≠ 3; decide)) (by rw [subS_size _ _ _ hn.2]; exact Nat.le_refl _) rfl rfl hd (fun h45 => by rw [h45] at ha; exact absurd ha (by decide)) ?_⟩
    intro s' i' st' hag hst hc'
    have hp0 := hag.pk0 hn.1
    have hadv : advN s' i' = advN s i := by
      unfold advN at hag hst ⊢
      split at hag
      · rename_i h58
        rw [if_pos h58]
        rw [if_pos]
        rw [hag.pk1 (by omega)]
        exact h58
      · rename_i h58
        rw [if_neg h58] at hst
        rw [if_neg h58, if_neg]
        have := hst.ne 58 (by decide) (by decide)
        simpa using this
    unfold tokenR
    rw [if_neg (by rw [hc']; decide), hp0, if_neg hl, if_neg h96, if_neg h34, if_neg hv, if_pos ha, hadv, hag.sub]
  have ht := h
  unfold tokenR at ht
  rw [if_neg hc, if_neg hl, if_neg h96, if_neg h34, if_neg hv, if_neg ha] at ht
  split at ht
  · rename_i n k v hm
    injection ht with ht
    have hg := markS_goes hm
    have hkv : k ≠ 3 ∧ v.N = [] ∧ v.S = [] := by
      unfold markS at hm
      split at hm
      · injection hm with hm
        simp only [Prod.mk.injEq] at hm
        obtain ⟨-, rfl, rfl⟩ := hm
        exact ⟨by decide, rfl, rfl⟩
      · split at hm
        · cases hm
        · split at hm
          · injection hm with hm
            simp only [Prod.mk.injEq] at hm
            obtain ⟨-, rfl, rfl⟩ := hm
            exact ⟨by decide, rfl, rfl⟩
          · injection hm with hm
            simp only [Prod.mk.injEq] at hm
            obtain ⟨-, rfl, rfl⟩ := hm
            exact ⟨by decide, rfl, rfl⟩
    refine ⟨_, _, ht.symm, rfl, rfl, plain_tokAt hg.1 hg.2 (joinTxt_of hkv.1) (by rw [subS_size _ _ _ hg.2]; exact Nat.le_refl _) hkv.2.1 hkv.2.2 hd (fun h45 => by rw [h45] at hv; exact absurd (by decide) hv) ?_⟩
    intro s' i' st' hag hst hc'
    have hp0 := hag.pk0 hg.1
    have hmk : markS s' i' = some (n, k, v) := by
      unfold markS at hm ⊢
      split at hm
      · rename_i he
        injection hm with hm
        simp only [Prod.mk.injEq] at hm
        obtain ⟨rfl, rfl, rfl⟩ := hm
        have hp1 := hag.pk1 (by omega)
        have hp2 : pkI s' ((i' : Int) + 2) = pkI s ((i : Int) + 2) := by
          have := hag.eq 2 (by omega)
          simpa using this.symm
        have hp3 : inI (pkI s' ((i' : Int) + 3)) = false := by
          have := hst.in_
          simpa using this
        have he' : empB s' i' = true := by
          unfold empB at he ⊢
          simp only [Bool.and_eq_true] at he
          rw [hp0, hp1, hp2, hp3]
          simp only [Bool.and_eq_true]
          exact ⟨he.1, he.2.1, rfl, he.2.2.2⟩
        rw [if_pos he', hp2]
      · rename_i he
        split at hm
        · cases hm
        · rename_i h0
          have hE : ¬empB s' i' = true := by
            intro he'
            unfold empB at he'
            simp only [Bool.and_eq_true, beq_iff_eq] at he'
            by_cases h1 : n = 1
            · have := hst.ne 41 (by decide) (by decide)
              rw [h1] at this
              exact this (by simpa using he'.2.1)
            · rename_i hm'
              split at hm
              · rename_i h58
                simp only [Bool.and_eq_true, beq_iff_eq] at h58
                rw [hp0, h58.1] at he'
                exact absurd he'.1 (by decide)
              · injection hm with hm
                simp only [Prod.mk.injEq] at hm
                exact h1 hm.1.symm
          rw [if_neg hE, hp0, if_neg h0]
          split at hm
          · rename_i h58
            injection hm with hm
            simp only [Prod.mk.injEq] at hm
            obtain ⟨rfl, rfl, rfl⟩ := hm
            rw [hag.pk1 (by omega), if_pos h58]
          · rename_i h58
            injection hm with hm
            simp only [Prod.mk.injEq] at hm
            obtain ⟨rfl, rfl, rfl⟩ := hm
            rw [if_neg]
            intro hx
            simp only [Bool.and_eq_true, beq_iff_eq] at hx
            have := hst.ne 58 (by decide) (by decide)
            exact this (by simpa using hx.2)
    unfold tokenR
    rw [if_neg (by rw [hc']; decide), hp0, if_neg hl, if_neg h96, if_neg h34, if_neg hv, if_neg ha, hmk]
    show Except.ok (addTok s' st' i' n k (subS s' i' n) v) = _
    rw [hag.sub]
  · cases ht
end Go.Proofs.YtnoplebjkbfedaaDoor
