/- Tokens that are joined are the same tokens again. Plain Lean. -/
import Derived.Test.YtnoplebjkbfedaaDoorP3
import Derived.Test.YtnoplebjkbfedaaDoorD6
import Derived.Test.YtnoplebjkbfedaaDoorE5
namespace Go.Proofs.YtnoplebjkbfedaaDoor
open Go Go.RowKit
set_option linter.unusedSimpArgs false
set_option linter.unusedVariables false
set_option maxRecDepth 100000
/-- What is known of a token of some text. -/
def Mv (t : Tok) : Prop := ∃ s i n, s.size ≤ 65536 ∧ TokAt s i n t ∧ pkI s i ≠ 32
theorem lexF_mv {f : Nat} {s : ByteArray} (hs : s.size ≤ 65536) : ∀ {st : LxSt} {a : Nat} {toks : List Tok}, st.at_ = (a : Int) → a ≤ s.size → s.size < f + a → st.toks.length ≤ 16384 → lexF f s st = .ok toks →
    ∃ ts, toks = st.toks ++ ts ∧ (∀ t ∈ ts, Mv t) ∧ toks.length ≤ 16384 := by
  induction f with
  | zero =>
    intro st a toks ha hle hf
    omega
  | succ f ih =>
    intro st a toks ha hle hf hcnt h
    have hrl := runN_le blI s a hle
    by_cases hend : a + runN blI s a = s.size
    · rw [lexF_end ha hend] at h
      injection h with h
      exact ⟨[], by rw [List.append_nil]; exact h.symm, fun t ht => by simp at ht, by rw [← h]; exact hcnt⟩
    · rw [lexF_tok ha rfl hend] at h
      generalize htr : tokenR s { st with at_ := ((a + runN blI s a : Nat) : Int) } (a + runN blI s a) = tr at h
      rcases tr with ⟨e, b⟩ | st'
      · cases h
      · obtain ⟨n, t, hst', h1, h2, hta⟩ := tok_tokAt rfl (by omega) htr
        unfold lexNext at h
        simp only at h
        split at h
        · cases h
        · rename_i hbig
          obtain ⟨ts, e1, e2, e3⟩ := ih (st := st') (a := a + runN blI s a + n) (by rw [hst']) hta.le (by have := hta.pos; omega) (by omega) h
          refine ⟨t :: ts, by rw [e1, hst']; simp, ?_, e3⟩
          intro x hx
          rcases List.mem_cons.1 hx with rfl | hx
          · exact ⟨s, _, n, hs, hta, pk_run_end s a⟩
          · exact e2 x hx
def bt (l : List UInt8) (k : Nat) : Int := match l[k]? with
  | some c => (c.toNat : Int)
  | none => 0
theorem pk_drop {s : ByteArray} {p : Nat} {l : List UInt8} (h : s.data.toList.drop p = l) (k : Nat) : pkI s ((p + k : Nat) : Int) = bt l k := by
  unfold bt
  rw [← h, List.getElem?_drop]
  by_cases hk : p + k < s.size
  · rw [pk_at s _ hk, List.getElem?_eq_getElem (by simpa using hk)]
    simp [ByteArray.getElem_eq_getElem_data]
  · rw [pkI_end (by omega), List.getElem?_eq_none (by simp; omega)]
theorem bt_left {a b : List UInt8} {k : Nat} (h : k < a.length) : bt (a ++ b) k = bt a k := by
  unfold bt
  rw [List.getElem?_append_left h]
theorem bt_right {a b : List UInt8} (k : Nat) : bt (a ++ b) (a.length + k) = bt b k := by
  unfold bt
  rw [List.getElem?_append_right (by omega), Nat.add_sub_cancel_left]
theorem Mv.len {t : Tok} (h : Mv t) : 0 < (joinTxt t).length ∧ (joinTxt t).length ≤ 65536 := by
  obtain ⟨s, i, n, hs, ha, _⟩ := h
  have := subS_size s i n ha.le
  have h2 : (subS s i n).data.toList.length = (subS s i n).size := rfl
  have := ha.pos
  have := ha.le
  rw [ha.txt]
  omega
theorem TokAt.bt {s : ByteArray} {i n : Nat} {t : Tok} (ha : TokAt s i n t) : bt (joinTxt t) 0 = pkI s i ∧ (joinTxt t).length = n := by
  have h1 := subS_size s i n ha.le
  have h2 : (subS s i n).data.toList.length = (subS s i n).size := rfl
  refine ⟨?_, by rw [ha.txt]; omega⟩
  have h3 := pk_drop (s := s) (p := i) rfl 0
  rw [ha.txt, sub_list]
  have hp := ha.pos
  unfold Proofs.YtnoplebjkbfedaaDoor.bt at h3 ⊢
  rw [List.getElem?_take, if_pos hp]
  exact h3.symm
/-- What stands behind a token. -/
def tailL (ts : List Tok) : List UInt8 := Lib.joinTail [32] (ts.map joinTxt)
theorem tailL_cons (t : Tok) (r : List Tok) : tailL (t :: r) = 32 :: (joinTxt t ++ tailL r) := by simp [tailL, Lib.joinTail]
theorem joinS_cons (t : Tok) (r : List Tok) : joinS (t :: r) = joinTxt t ++ tailL r := Lib.join_cons _ _ _
theorem bt_tail (ts : List Tok) : bt (tailL ts) 0 = 0 ∨ bt (tailL ts) 0 = 32 := by
  cases ts with
  | nil => exact .inl rfl
  | cons t r => rw [tailL_cons]; exact .inr rfl
def TailAt (s' : ByteArray) (p : Nat) (ts : List Tok) : Prop := s'.data.toList.drop p = tailL ts ∨ (p = 0 ∧ s'.data.toList = joinS ts)
theorem pair_num {a b : Tok} (ha : numT a) (hb : numT b) : pairB a b = true := by
  unfold pairB
  rw [ha.1, hb.1, ha.2, hb.2]
  rfl
theorem relex : ∀ (ts : List Tok) (s' : ByteArray) (p f : Nat) (st : LxSt), (∀ t ∈ ts, Mv t) → sidesL ts = false → st.at_ = (p : Int) → p ≤ s'.size → s'.size < f + p → st.toks.length + ts.length ≤ 16384 → TailAt s' p ts →
    ∃ ts', lexF f s' st = .ok (st.toks ++ ts') ∧ ts'.length = ts.length ∧ ∀ (k : Nat) (x y : Tok), ts[k]? = some x → ts'[k]? = some y → Alike x y := by
  intro ts
  induction ts with
  | nil =>
    intro s' p f st _ _ hp hle hf _ ht
    have hsz : p = s'.size := by
      rcases ht with h | ⟨rfl, h⟩
      · have := congrArg List.length h
        have h2 : s'.data.toList.length = s'.size := rfl
        simp only [List.length_drop, tailL, List.map_nil, Lib.joinTail, List.flatten_nil, List.length_nil] at this
        omega
      · have := congrArg List.length h
        have h2 : s'.data.toList.length = s'.size := rfl
        simp only [joinS, List.map_nil, Lib.join_nil, List.length_nil] at this
        omega
    obtain ⟨g, rfl⟩ : ∃ g, f = g + 1 := ⟨f - 1, by omega⟩
    have hr := runN_le blI s' p hle
    refine ⟨[], ?_, rfl, fun k x y h => by simp at h⟩
    rw [lexF_end hp (by omega), List.append_nil]
  | cons t r ih =>
    intro s' p f st hmv hsd hp hle hf hcnt htail
    obtain ⟨g, rfl⟩ : ∃ g, f = g + 1 := ⟨f - 1, by omega⟩
    obtain ⟨s, i, n, hs, hta, h32⟩ := hmv t (List.mem_cons_self ..)
    obtain ⟨hb0, hwl⟩ := hta.bt
    have hn := hta.pos
    have hbl : blI 0 = false := by decide
    -- where the token begins
    obtain ⟨i', hi', hdrop, hbefore⟩ : ∃ i', p + runN blI s' p = i' ∧ s'.data.toList.drop i' = joinTxt t ++ tailL r ∧ (i' = 0 ∨ pkI s' ((i' : Int) - 1) = 32) := by
      have hnb : blI (bt (joinTxt t ++ tailL r) 0) = false := by
        rw [bt_left (by omega), hb0]
        unfold blI
        simpa using h32
      rcases htail with h | ⟨rfl, h⟩
      · rw [tailL_cons] at h
        have h1 : s'.data.toList.drop (p + 1) = joinTxt t ++ tailL r := by
          rw [← List.drop_drop, h]
          rfl
        have hr : runN blI s' p = 1 := runN_eq hbl (fun k hk => by
          obtain rfl : k = 0 := by omega
          rw [pk_drop h 0]
          show blI ((32 : UInt8).toNat : Int) = true
          decide) (by
          have := pk_drop h1 0
          rw [Nat.add_zero] at this
          rw [this]
          exact hnb)
        refine ⟨p + 1, by rw [hr], h1, .inr ?_⟩
        have := pk_drop h 0
        have e : ((p + 1 : Nat) : Int) - 1 = ((p + 0 : Nat) : Int) := by omega
        rw [e, this]
        rfl
      · rw [joinS_cons] at h
        have h1 : s'.data.toList.drop 0 = joinTxt t ++ tailL r := by
          rw [List.drop_zero]
          exact h
        have hr : runN blI s' 0 = 0 := runN_eq hbl (fun k hk => by omega) (by rw [pk_drop h1 0]; exact hnb)
        exact ⟨0, by rw [hr], h1, .inl rfl⟩
    have hlen : (joinTxt t ++ tailL r).length = s'.size - i' := by
      rw [← hdrop, List.length_drop]
      rfl
    rw [List.length_append, hwl] at hlen
    have hag : Ag s i s' i' n := Ag.of_list hta.le (by omega) (by
      rw [hdrop, List.take_append_of_le_length (by omega), ← sub_list, ← hta.txt, List.take_of_length_le (by omega)])
    have hnext : s'.data.toList.drop (i' + n) = tailL r := by
      rw [← List.drop_drop, hdrop, ← hwl, List.drop_left]
    have hst : Stop s' (i' + n) := by
      have := pk_drop hnext 0
      rw [Nat.add_zero] at this
      unfold Stop
      rw [this]
      exact bt_tail r
    have hno : numT t → moreS s' (i' + n) = none := by
      intro hnt
      cases r with
      | nil =>
        have hz : i' + n = s'.size := by
          have : (tailL ([] : List Tok)).length = 0 := rfl
          omega
        have := runN_le blI s' (i' + n) (by omega)
        exact moreS_zero (by omega)
      | cons t2 r2 =>
        obtain ⟨s2, i2, n2, hs2, hta2, h322⟩ := hmv t2 (by simp)
        obtain ⟨hb2, hwl2⟩ := hta2.bt
        have hn2 := hta2.pos
        have hn2t : ¬numT t2 := fun h => by
          have := pair_num hnt h
          simp [sidesL, this] at hsd
        rw [tailL_cons] at hnext
        have h1 : s'.data.toList.drop (i' + n + 1) = joinTxt t2 ++ tailL r2 := by
          rw [← List.drop_drop, hnext]
          rfl
        have hc2 : pkI s' ((i' + n + 1 : Nat) : Int) = pkI s2 i2 := by
          have := pk_drop h1 0
          rw [Nat.add_zero, bt_left (by omega), hb2] at this
          exact this
        have hr : runN blI s' (i' + n) = 1 := runN_eq hbl (fun k hk => by
          obtain rfl : k = 0 := by omega
          rw [pk_drop hnext 0]
          show blI ((32 : UInt8).toNat : Int) = true
          decide) (by
          rw [hc2]
          unfold blI
          simpa using h322)
        refine moreS_no hr ?_ ?_
        · rw [hc2]
          cases hq : dgI (pkI s2 i2)
          · rfl
          · exact absurd (hta2.dig hq) hn2t
        · by_cases h45 : pkI s2 i2 = 45
          · right
            rcases hta2.neg h45 with h | h
            · exact absurd h hn2t
            · have := pk_drop h1 1
              have e : ((i' + n + 1 : Nat) : Int) + 1 = ((i' + n + 1 + 1 : Nat) : Int) := by omega
              rw [e, this]
              have e2 := bt_right (a := joinTxt t2) (b := tailL r2) 0
              rw [Nat.add_zero, hwl2, h] at e2
              rw [e2]
              rcases bt_tail r2 with h | h <;> rw [h] <;> decide
          · left
            rw [hc2]
            exact h45
    have htok := hta.mv s' i' { st with at_ := (i' : Int) } hag hbefore hst hno
    have hrl := runN_le blI s' p hle
    rw [lexF_tok hp hi' (by omega), htok]
    unfold lexNext
    simp only
    have hl1 : ¬16384 < (st.toks ++ [moved t i' n]).length := by
      simp only [List.length_append, List.length_cons, List.length_nil] at hcnt ⊢
      omega
    rw [if_neg hl1]
    have hsd' : sidesL r = false := by
      cases r with
      | nil => rfl
      | cons t2 r2 =>
        simp only [sidesL, Bool.or_eq_false_iff] at hsd
        exact hsd.2
    obtain ⟨ts', e1, e2, e3⟩ := ih s' (i' + n) g { st with at_ := ((i' + n : Nat) : Int), toks := st.toks ++ [moved t i' n] } (fun x hx => hmv x (List.mem_cons_of_mem _ hx)) hsd' rfl (by omega) (by omega) (by simp only [List.length_append, List.length_cons, List.length_nil] at hcnt ⊢; omega) (.inl hnext)
    refine ⟨moved t i' n :: ts', ?_, by simp [e2], ?_⟩
    · rw [e1]
      simp
    · intro k x y hx hy
      cases k with
      | zero =>
        simp at hx hy
        subst hx
        subst hy
        exact ⟨rfl, rfl, rfl⟩
      | succ k => exact e3 k x y (by simpa using hx) (by simpa using hy)
theorem flat_le (l : List (List UInt8)) (h : ∀ x ∈ l, x.length ≤ 65537) : l.flatten.length ≤ l.length * 65537 := by
  induction l with
  | nil => simp
  | cons a r ih =>
    have h1 := h a (List.mem_cons_self ..)
    have h2 := ih (fun x hx => h x (List.mem_cons_of_mem _ hx))
    simp only [List.flatten_cons, List.length_append, List.length_cons]
    omega
theorem joinS_le {ts : List Tok} (h : ∀ t ∈ ts, Mv t) : (joinS ts).length ≤ ts.length * 65537 := by
  cases ts with
  | nil => simp [joinS, Lib.join_nil]
  | cons t r =>
    rw [joinS_cons, List.length_append]
    have h1 := (h t (List.mem_cons_self ..)).len.2
    have h2 := flat_le ((r.map joinTxt).map ([32] ++ ·)) (fun x hx => by
      simp only [List.mem_map] at hx
      obtain ⟨y, ⟨z, hz, rfl⟩, rfl⟩ := hx
      have := (h z (List.mem_cons_of_mem _ hz)).len.2
      simp only [List.length_append, List.length_cons, List.length_nil]
      omega)
    simp only [List.length_map] at h2
    show _ + (tailL r).length ≤ _
    unfold tailL Lib.joinTail
    simp only [List.length_cons]
    omega
/-- What is known of the tokens of a text. -/
theorem lexS_toks {s : ByteArray} {toks : List Tok} (h : lexS s = .ok toks) : (∀ t ∈ toks, Mv t) ∧ toks.length ≤ 16384 ∧ s.size ≤ 65536 := by
  unfold lexS at h
  split at h
  · cases h
  · obtain ⟨ts, h1, h2, h3⟩ := lexF_mv (a := 0) (by omega) rfl (Nat.zero_le _) (by omega) (Nat.zero_le _) h
    simp only [List.nil_append] at h1
    subst h1
    exact ⟨h2, h3, by omega⟩
theorem Mv.sizes {t : Tok} (h : Mv t) : t.text.size ≤ 65536 ∧ t.v.N.length ≤ 65536 ∧ t.v.S.length ≤ 65536 := by
  obtain ⟨s, i, n, hs, ha, _⟩ := h
  have := ha.le
  have := ha.tsz
  have := ha.nsz
  have := ha.ssz
  omega
/-- The law: tokens that are joined are the same tokens again. -/
theorem lex_back {s : ByteArray} {toks : List Tok} (h : lexS s = .ok toks) (hsd : sidesL toks = false) (hj : (joinS toks).length ≤ 65536) :
    ∃ toks', lexS ⟨(joinS toks).toArray⟩ = .ok toks' ∧ toks'.length = toks.length ∧ ∀ (k : Nat) (x y : Tok), toks[k]? = some x → toks'[k]? = some y → Alike x y := by
  obtain ⟨h1, h2, h3⟩ := lexS_toks h
  have hsz : (⟨(joinS toks).toArray⟩ : ByteArray).size = (joinS toks).length := by
    show (joinS toks).toArray.size = _
    simp
  obtain ⟨ts', e1, e2, e3⟩ := relex toks ⟨(joinS toks).toArray⟩ 0 ((joinS toks).length + 1) ⟨0, [], 0, 0⟩ h1 hsd rfl (Nat.zero_le _) (by omega) (by simpa using h2) (.inr ⟨rfl, rfl⟩)
  refine ⟨ts', ?_, e2, e3⟩
  unfold lexS
  rw [if_neg (by omega), hsz]
  simpa using e1
end Go.Proofs.YtnoplebjkbfedaaDoor
