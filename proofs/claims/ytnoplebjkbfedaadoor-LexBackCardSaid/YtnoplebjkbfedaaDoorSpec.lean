/- What the lexer computes, as functions on lists of bytes. Plain Lean. -/
import Derived.Lib.Strings
import Derived.Lib.SlTrimSet
import Derived.Lib.ParseIntB
namespace Go.Proofs.YtnoplebjkbfedaaDoor
open Go

/-- How the reading of a numeral ends that is none: as that of the empty text does. -/
def synE : Lib.NumEnd Nat := Lib.parseUintB 64 []
theorem synE_ne (v : Nat) : synE ≠ .ok v := by intro h; have : (Lib.parseUintB 64 [] = .ok v) := h; simp [Lib.parseUintB] at this
theorem numEnd3 (x : Lib.NumEnd Nat) : (∃ u, x = .ok u) ∨ x = synE ∨ x = .range := by
  cases x
  · exact .inl ⟨_, rfl⟩
  · exact .inr (.inl rfl)
  · exact .inr (.inr rfl)
/-- A plain value: its type, numbers, symbols; no parts. -/
structure FV where
  T : Int
  N : List Int
  S : List ByteArray
structure Tok where
  kind : Int
  at_ : Int
  end_ : Int
  text : ByteArray
  v : FV
structure LxSt where
  at_ : Int
  toks : List Tok
  err : Int
  bad : Int

def dgI (c : Int) : Bool := decide (48 ≤ c) && decide (c ≤ 57)
def ltI (c : Int) : Bool := (decide (97 ≤ c) && decide (c ≤ 122)) || (decide (65 ≤ c) && decide (c ≤ 90))
def inI (c : Int) : Bool := (ltI c || dgI c) || decide (c = 95)
def lnI (c : Int) : Bool := inI c || decide (c = 46)
def blI (c : Int) : Bool := decide (c = 32)
/-- The byte at a place; 0: there is none. -/
def pkI (s : ByteArray) (i : Int) : Int := if h : i.toNat < s.size then ((s[i.toNat]'h).toNat : Int) else 0
/-- How many bytes from a place on are so. -/
def runN (p : Int → Bool) (s : ByteArray) (i : Nat) : Nat := ((s.data.toList.drop i).takeWhile fun c => p c.toNat).length
/-- The bytes of s from i, n of them. -/
def subS (s : ByteArray) (i n : Nat) : ByteArray := s.extract i (i + n)
def wordB (s : ByteArray) : Bool := s.data.toList.all (fun c => inI c.toNat) && (match s.data.toList with | [] => false | c :: _ => ltI c.toNat)
def isBy (t : ByteArray) (c : UInt8) : Bool := decide (t.data.toList = [c])
/-- Does a - that stands behind this token begin a number? -/
def negTok (t : Tok) : Bool := decide (t.kind = 4) || (decide (t.kind = 5) || (decide (t.kind = 6) && !isBy t.text 41 && !isBy t.text 93 && !isBy t.text 125))
def negB (s : ByteArray) (i : Nat) (toks : List Tok) : Bool :=
  decide (pkI s i = 45) && dgI (pkI s (i + 1)) && (decide (i = 0) || decide (pkI s (i - 1) = 32) || (match toks.getLast? with | some t => negTok t | none => false))
/-- The number that begins at a place: its sign, its length. -/
def numPre (s : ByteArray) (i : Nat) : Nat := if pkI s i = 45 then 1 else 0
def numLen (s : ByteArray) (i : Nat) : Nat := numPre s i + runN lnI s (i + numPre s i)
theorem subS_size (s : ByteArray) (i n : Nat) (h : i + n ≤ s.size) : (subS s i n).size = n := by
  unfold subS
  rw [ByteArray.size_extract]
  omega
theorem runN_le (p : Int → Bool) (s : ByteArray) (i : Nat) (h : i ≤ s.size) : i + runN p s i ≤ s.size := by
  unfold runN
  have h1 := (List.takeWhile_sublist (l := s.data.toList.drop i) fun c => p c.toNat).length_le
  have h2 : (s.data.toList.drop i).length = s.size - i := by simp
  omega
theorem takeWhile_get {α : Type} (p : α → Bool) : ∀ (l : List α) (k : Nat) (h : k < l.length), k < (l.takeWhile p).length → p (l[k]'h) = true
  | [], _, h, _ => by simp at h
  | a :: l, k, h, hk => by
    rw [List.takeWhile_cons] at hk
    split at hk
    · rename_i ha
      cases k with
      | zero => simpa using ha
      | succ k => simpa using takeWhile_get p l k (by simpa using h) (by simpa using hk)
    · simp at hk
theorem takeWhile_stop {α : Type} (p : α → Bool) : ∀ (l : List α) (h : (l.takeWhile p).length < l.length), p (l[(l.takeWhile p).length]'h) = false
  | [], h => by simp at h
  | a :: l, h => by
    by_cases ha : p a = true
    · have e : (a :: l).takeWhile p = a :: l.takeWhile p := by rw [List.takeWhile_cons, if_pos ha]
      have h' : (l.takeWhile p).length < l.length := by rw [e] at h; simpa using h
      have := takeWhile_stop p l h'
      simpa [e] using this
    · have e : (a :: l).takeWhile p = [] := by rw [List.takeWhile_cons, if_neg ha]
      simp only [e]
      simpa using ha
/-- Below runN the bytes are so; at runN there is none that is so. -/
theorem runN_in (p : Int → Bool) (s : ByteArray) (i k : Nat) (hk : k < runN p s i) : ∃ h : i + k < s.size, p ((s[i + k]'h).toNat : Int) = true := by
  unfold runN at hk
  have h1 := (List.takeWhile_sublist (l := s.data.toList.drop i) fun c => p c.toNat).length_le
  have h2 : (s.data.toList.drop i).length = s.size - i := by simp
  have h3 : i + k < s.size := by omega
  refine ⟨h3, ?_⟩
  have := takeWhile_get (fun c : UInt8 => p c.toNat) (s.data.toList.drop i) k (by omega) hk
  simpa [ByteArray.getElem_eq_getElem_data] using this
theorem runN_end (p : Int → Bool) (s : ByteArray) (i : Nat) (h : i + runN p s i < s.size) : p ((s[i + runN p s i]'h).toNat : Int) = false := by
  unfold runN at h ⊢
  have h2 : (s.data.toList.drop i).length = s.size - i := by simp
  have := takeWhile_stop (fun c : UInt8 => p c.toNat) (s.data.toList.drop i) (by omega)
  simpa [ByteArray.getElem_eq_getElem_data] using this
/-- Is it the text of bools: digits 0 and 1, and a b? -/
def bitsB (t : List UInt8) : Bool := Lib.hasSuffix t [98] && (!(Lib.trimSuffix t [98]).isEmpty && (Lib.trimS (Lib.trimSuffix t [98]) [48, 49]).isEmpty)
/-- Where the next number of a vector begins, if there is one. -/
def moreS (s : ByteArray) (i : Nat) : Option Nat :=
  let n := runN blI s i
  let c := pkI s ((i + n : Nat) : Int)
  if n = 0 then none
  else if !dgI c && !(decide (c = 45) && dgI (pkI s ((i + n : Nat) + 1))) then none
  else if bitsB ((subS s (i + n) (runN lnI s (i + n))).data.toList) then none else some (i + n)
theorem pk_at (s : ByteArray) (i : Nat) (h : i < s.size) : pkI s i = ((s[i]'h).toNat : Int) := by
  simp [pkI, h]
theorem pk_run_in (s : ByteArray) (i k : Nat) (h : k < runN blI s i) : pkI s ((i + k : Nat) : Int) = 32 := by
  obtain ⟨h1, h2⟩ := runN_in blI s i k h
  rw [pk_at s (i + k) h1]
  simpa [blI] using h2
theorem pk_run_end (s : ByteArray) (i : Nat) : pkI s ((i + runN blI s i : Nat) : Int) ≠ 32 := by
  by_cases h : i + runN blI s i < s.size
  · rw [pk_at s _ h]
    have := runN_end blI s i h
    simpa [blI] using this
  · unfold pkI
    rw [dif_neg (by omega)]
    decide
end Go.Proofs.YtnoplebjkbfedaaDoor
