/- A region that draws its order is walked in one chosen order: operations that only look are taken as soon as they may come up, each other operation comes up alone. Plain theorems over any program. -/
import Derived.OrdersHeld
import Derived.Tactics
namespace Go.Proofs.YtnoplebjkbfedaaDoor
open Go

/-- How an operation is taken: it yields in every world (p); it yields in the world at hand, and the next loud operation waits for it by this way (l); it yields where the held facts hold, and the operation that may end them waits for it by this way (h); it is loud, and comes up alone (w; with true: the held facts hold behind it). -/
inductive Mk where
  | p
  | l (way : List Nat)
  | h (way : List Nat)
  | w (keep : Bool)

def thenN (K : Act → World → Prop) (Q : Exit → Act → World → Prop) : Exit → Act → World → Prop
  | .normal, a, w => K a w
  | e, a, w => Q e a w
theorem thenN_normal {K : Act → World → Prop} {Q : Exit → Act → World → Prop} {a : Act} {w : World} (h : K a w) : thenN K Q .normal a w := h

/-- Q, but False at a panic. -/
def noPan (Q : Exit → Act → World → Prop) : Exit → Act → World → Prop
  | .panic _, _, _ => False
  | e, a, w => Q e a w
theorem noPan_imp {Q : Exit → Act → World → Prop} : ∀ (e : Exit) (a : Act) (w : World), noPan Q e a w → Q e a w := fun e a w h => by
  cases e <;> first | exact h | exact (h : False).elim
theorem noPan_normal {Q : Exit → Act → World → Prop} {a : Act} {w : World} (h : Q .normal a w) : noPan Q .normal a w := h

section
variable {P : Program} {ops : Array Oper} {Q : Exit → Act → World → Prop} {md : Region.Mode}

/-- What is asked of an operation that only looks: one value in every world of the class. -/
def lookUpon (w : World) (v : Value) : Result Next → Prop
  | .ok (.value u) w' => w' = w ∧ u = v
  | _ => False
def lookOp (P : Program) (o : Oper) (a : Act) (C : World → Prop) (next : Act → Prop) : Prop :=
  ∃ v, (∀ w, C w → lookUpon w v ((execOp a.eval o).run P w)) ∧ next (a.put o.dst v)

def Mk.cls (S0 : World → Prop) (w : World) : Mk → World → Prop
  | .p => fun _ => True
  | .l _ => fun w' => w' = w
  | .h _ => S0
  | .w _ => fun _ => False

def wpMix (P : Program) (ops : Array Oper) (Q : Exit → Act → World → Prop) (S0 : World → Prop) : List (Mk × Nat) → Act → World → Prop
  | [], a, w => Q .normal a w
  | (.w keep, i) :: r, a, w => match ops[i]? with
    | none => False
    | some o => wpList P ops (thenN (fun a' w' => (keep = true → S0 w') ∧ wpMix P ops Q S0 r a' w') Q) [o] a w
  | (k, i) :: r, a, w => match ops[i]? with
    | none => False
    | some o => if Region.wanted o (yielded ops a.tmps) then lookOp P o a (k.cls S0 w) (fun a' => wpMix P ops Q S0 r a' w) else wpMix P ops Q S0 r (a.put o.dst undef) w

/-- A way from operation to operation, each waiting for the next one. -/
def isWay (md : Region.Mode) (ops : Array Oper) : List Nat → Bool
  | [] => false
  | [_] => true
  | a :: b :: r => (match ops[a]? with | some o => o.after.any (fun e => Region.binds md e && e.on == b) | none => false) && isWay md ops (b :: r)
def wayTo (md : Region.Mode) (ops : Array Oper) (l : List Nat) (from_ to_ : Nat) : Bool := l.head? == some from_ && l.getLast? == some to_ && isWay md ops l
def nextLoud (n : Nat) : List (Mk × Nat) → Nat
  | [] => n
  | (.w _, i) :: _ => i
  | _ :: r => nextLoud n r
def mixOk (md : Region.Mode) (ops : Array Oper) (m : Nat) : List (Mk × Nat) → Array Bool → Bool
  | [], L => (Region.ready md ops L).isEmpty
  | (k, i) :: r, L => (match k with
      | .w keep => Region.ready md ops L == [i] && (keep || m == i || L.getD m false)
      | .p => (Region.ready md ops L).contains i && Region.free md ops L i && m != i && nextLoud ops.size r != i
      | .l way => (Region.ready md ops L).contains i && Region.free md ops L i && m != i && nextLoud ops.size r != i && (nextLoud ops.size r == ops.size || wayTo md ops way (nextLoud ops.size r) i)
      | .h way => (Region.ready md ops L).contains i && Region.free md ops L i && m != i && nextLoud ops.size r != i && (decide (ops.size ≤ m) || wayTo md ops way m i)) &&
    mixOk md ops m r (L.setIfInBounds i true)

def Closed (md : Region.Mode) (ops : Array Oper) (L : Array Bool) : Prop :=
  L.size = ops.size ∧ ∀ (j : Nat) (o : Oper), ops[j]? = some o → L.getD j false = true → ∀ e ∈ o.after, Region.binds md e = true → L.getD e.on false = true

theorem Closed.set {L : Array Bool} {i : Nat} (h : Closed md ops L) (hi : i ∈ Region.ready md ops L) : Closed md ops (L.setIfInBounds i true) := by
  refine ⟨by simpa using h.1, fun j o hj hl e he hb => ?_⟩
  by_cases hij : i = j
  · subst hij
    obtain ⟨_, o', ho', hall⟩ := mem_ready.1 hi
    rw [hj] at ho'
    obtain rfl := Option.some.inj ho'
    exact getD_set_true (hall e he hb)
  · rw [getD_set_ne false hij] at hl
    exact getD_set_true (h.2 j o hj hl e he hb)

theorem Closed.way {L : Array Bool} (h : Closed md ops L) : ∀ (l : List Nat) (a b : Nat), isWay md ops l = true → l.head? = some a → l.getLast? = some b → L.getD a false = true → L.getD b false = true := by
  intro l
  induction l with
  | nil => intro a b hw; simp [isWay] at hw
  | cons x r ih =>
    intro a b hw ha hb hL
    cases r with
    | nil => simp at ha hb; subst ha; subst hb; exact hL
    | cons y r =>
      simp only [isWay, Bool.and_eq_true] at hw
      simp at ha
      subst ha
      refine ih y b hw.2 rfl (by simpa using hb) ?_
      have h1 := hw.1
      split at h1
      · rename_i o ho
        obtain ⟨e, he, hb'⟩ := Array.any_eq_true'.1 h1
        simp only [Bool.and_eq_true, beq_iff_eq] at hb'
        rw [← hb'.2]
        exact h.2 x o ho hL e he hb'.1
      · cases h1

theorem Closed.wayTo {L : Array Bool} (h : Closed md ops L) {l : List Nat} {a b : Nat} (hw : wayTo md ops l a b = true) (hb : L.getD b false = false) : L.getD a false = false := by
  simp only [Proofs.YtnoplebjkbfedaaDoor.wayTo, Bool.and_eq_true, beq_iff_eq] at hw
  cases ha : L.getD a false
  · rfl
  · have := h.way l a b hw.2 hw.1.1 hw.1.2 ha
    rw [hb] at this
    cases this

/-- Whatever order is picked from here on, and S holds behind each operation. -/
def wpAnyS (P : Program) (md : Region.Mode) (ops : Array Oper) (Q : Exit → Act → World → Prop) (S : Array Bool → World → Prop) : Nat → Array Bool → Act → World → Prop
  | 0, L, a, w => Region.ready md ops L = [] ∧ Q .normal a w
  | fuel + 1, L, a, w =>
    (Region.ready md ops L = [] → Q .normal a w) ∧
    ∀ i ∈ Region.ready md ops L, wpOp P ops Q i (fun a' w' => S (L.setIfInBounds i true) w' ∧ wpAnyS P md ops Q S fuel (L.setIfInBounds i true) a' w') a w

theorem wpAny_of_S {S : Array Bool → World → Prop} : ∀ (fuel : Nat) (L : Array Bool) (a : Act) (w : World), wpAnyS P md ops Q S fuel L a w → wpAny P md ops Q fuel L a w
  | 0, _, _, _, h => h
  | fuel + 1, _, _, _, h => ⟨h.1, fun i hi => wpOp_mono (fun a' w' h' => wpAny_of_S fuel _ a' w' h'.2) (h.2 i hi)⟩

theorem wpAnyS_weaken {S S' : Array Bool → World → Prop} {h0 : Nat} (hS : ∀ (M : Array Bool) w, M.getD h0 false = true → S M w → S' M w) : ∀ (fuel : Nat) (L : Array Bool) (a : Act) (w : World), L.getD h0 false = true →
    wpAnyS P md ops Q S fuel L a w → wpAnyS P md ops Q S' fuel L a w
  | 0, _, _, _, _, h => h
  | fuel + 1, L, _, _, hL, h => ⟨h.1, fun i hi => wpOp_mono (fun a' w' h' => ⟨hS _ _ (getD_set_true hL) h'.1, wpAnyS_weaken hS fuel _ a' w' (getD_set_true hL) h'.2⟩) (h.2 i hi)⟩

theorem getD_false_of_true {L : Array Bool} {i : Nat} (h : L.getD i true = false) : L.getD i false = false := by
  rcases Nat.lt_or_ge i L.size with h' | h'
  · simpa [h'] using h
  · simp [Array.getElem?_eq_none h'] at h

theorem wpAnyS_first {S : Array Bool → World → Prop} {i : Nat} {oi : Oper} {v : Value} (hi : ops[i]? = some oi) (hsel : ∀ (j : Nat) (o : Oper) cs b, ops[j]? = some o → o.op ≠ .select cs b)
    (hQ : ∀ c a w, Q (.panic c) (a.put oi.dst v) w → Q (.panic c) a w) (hS : ∀ (M : Array Bool) w, S (M.setIfInBounds i true) w ↔ S M w) :
    ∀ (fuel : Nat) (L : Array Bool) (a : Act) (w : World),
      (∀ j oj, ops[j]? = some oj → j ≠ i → L.getD j true = false → (∀ e ∈ oj.after, Region.binds md e = true → e.on ≠ i) → oi.apart ops oj = true) →
      i ∈ Region.ready md ops L → Closed md ops L → YieldsIf P ops (fun w => ∃ L', Closed md ops L' ∧ L'.getD i true = false ∧ S L' w) oi v a → S L w →
      wpAnyS P md ops Q S fuel (L.setIfInBounds i true) (a.put oi.dst v) w → wpAnyS P md ops Q S (fuel + 1) L a w := by
  intro fuel
  induction fuel with
  | zero =>
    intro L a w _ hr hc hy hw H
    refine ⟨fun h => (by rw [h] at hr; cases hr), fun j hj => ?_⟩
    by_cases hji : j = i
    · subst hji; exact hy.wpOp hi ⟨L, hc, (mem_ready.1 hr).1, hw⟩ ⟨(hS _ _).2 hw, H⟩
    · have := ready_mono hj hji
      rw [H.1] at this
      cases this
  | succ fuel ih =>
    intro L a w hfree hr hc hy hw H
    refine ⟨fun h => (by rw [h] at hr; cases hr), fun j hj => ?_⟩
    by_cases hji : j = i
    · subst hji; exact hy.wpOp hi ⟨L, hc, (mem_ready.1 hr).1, hw⟩ ⟨(hS _ _).2 hw, H⟩
    · have h1 := H.2 j (ready_mono hj hji)
      obtain ⟨hjun, oj, hoj, hall⟩ := mem_ready.1 hj
      have hnot : ∀ e ∈ oj.after, Region.binds md e = true → e.on ≠ i := fun e he hb heq => by
        have h1 := hall e he hb
        have h0 := (mem_ready.1 hr).1
        rw [heq] at h1
        rw [getD_false_of_true h0] at h1
        cases h1
      have h2 := wpOp_putIf hoj (hfree j oj hoj hji hjun hnot) (fun cs b => hsel i oi cs b hi) (fun cs b => hsel j oj cs b hoj) hQ hy h1
      have hfree' : ∀ k ok, ops[k]? = some ok → k ≠ i → (L.setIfInBounds j true).getD k true = false →
          (∀ e ∈ ok.after, Region.binds md e = true → e.on ≠ i) → oi.apart ops ok = true := fun k ok hk hki hun hno => by
        refine hfree k ok hk hki ?_ hno
        by_cases hjk : j = k
        · subst hjk; exact hjun
        · rw [getD_set_ne true hjk] at hun; exact hun
      refine wpOp_mono (fun a' w' h3 => ?_) h2
      obtain ⟨hy', hs', h4⟩ := h3
      rw [Array.setIfInBounds_comm _ _ (Ne.symm hji)] at hs' h4
      have hs2 := (hS _ _).1 hs'
      exact ⟨hs2, ih (L.setIfInBounds j true) a' w' hfree' (ready_mono hr (Ne.symm hji)) (hc.set hj) hy' hs2 h4⟩

/-- In stage h0 (till operation h0 comes up) the world is w0; till m comes up the held facts hold. -/
def Stage (S0 : World → Prop) (m h0 : Nat) (w0 : World) (L : Array Bool) (w : World) : Prop := (L.getD h0 false = false → w = w0) ∧ (L.getD m false = false → S0 w)

theorem wpOp_of_list {i : Nat} {o : Oper} {K : Act → World → Prop} {a : Act} {w : World} (hi : ops[i]? = some o) (h : wpList P ops (thenN K Q) [o] a w) : wpOp P ops Q i K a w := by
  unfold Go.wpOp
  simp only [hi]
  unfold wpList at h
  split
  · rename_i hw
    rw [if_pos hw] at h
    rcases h with h | h
    · refine .inl ?_
      unfold Oper.wp at *
      generalize (execOp a.eval o).run P w = r at *
      cases r with
      | ok n w' =>
        cases n <;> simp only [Oper.upon] at h ⊢
        case value u => exact h
        case skip => exact h
        case defer d => exact h
        case enter f args =>
          refine h.mono fun e w'' he => ?_
          cases e <;> exact he
        case row row args => exact h
      | halt x w' => cases x <;> simp only [Oper.upon] at h ⊢; exact h
    · exact .inr ⟨h.1, h.2⟩
  · rename_i hw
    rw [if_neg hw] at h
    exact h

theorem look_first {S0 : World → Prop} {m : Nat} {k : Mk} {i : Nat} {o : Oper} {r : List (Mk × Nat)} {L : Array Bool} {a : Act} {w : World} (ho : ops[i]? = some o) (hsel : Region.noSelect ops = true)
    (hQ : ∀ c (a : Act) d v w, Q (.panic c) (a.put d v) w → Q (.panic c) a w)
    (hr : i ∈ Region.ready md ops L) (hf : Region.free md ops L i = true) (hm : m ≠ i) (hn : nextLoud ops.size r ≠ i) (hc : Closed md ops L)
    (hcls : ∀ L' w', Closed md ops L' → L'.getD i true = false → Stage S0 m (nextLoud ops.size r) w L' w' → k.cls S0 w w')
    (hst : Stage S0 m (nextLoud ops.size r) w L w) {fuel : Nat}
    (h : if Region.wanted o (yielded ops a.tmps) then lookOp P o a (k.cls S0 w) (fun a' => wpAnyS P md ops Q (Stage S0 m (nextLoud ops.size r) w) fuel (L.setIfInBounds i true) a' w)
      else wpAnyS P md ops Q (Stage S0 m (nextLoud ops.size r) w) fuel (L.setIfInBounds i true) (a.put o.dst undef) w) :
    wpAnyS P md ops Q (Stage S0 m (nextLoud ops.size r) w) (fuel + 1) L a w := by
  have hS : ∀ (L : Array Bool) w', Stage S0 m (nextLoud ops.size r) w (L.setIfInBounds i true) w' ↔ Stage S0 m (nextLoud ops.size r) w L w' := fun L w' => by
    unfold Stage
    rw [getD_set_ne false (Ne.symm hm), getD_set_ne false (Ne.symm hn)]
  have key : ∃ v, YieldsIf P ops (fun w' => ∃ L, Closed md ops L ∧ L.getD i true = false ∧ Stage S0 m (nextLoud ops.size r) w L w') o v a ∧
      wpAnyS P md ops Q (Stage S0 m (nextLoud ops.size r) w) fuel (L.setIfInBounds i true) (a.put o.dst v) w := by
    split at h
    · rename_i hw
      obtain ⟨v, h1, h2⟩ := h
      refine ⟨v, .inl ⟨hw, fun w' ⟨L', c1, c2, c3⟩ => ?_⟩, h2⟩
      have := h1 w' (hcls L' w' c1 c2 c3)
      generalize (execOp a.eval o).run P w' = q at *
      cases q with
      | ok n w'' => cases n <;> simp only [lookUpon] at this; obtain ⟨rfl, rfl⟩ := this; rfl
      | halt x w'' => simp only [lookUpon] at this
    · rename_i hw
      exact ⟨undef, .inr ⟨by simpa using hw, rfl⟩, h⟩
  obtain ⟨v, hy, hK⟩ := key
  exact wpAnyS_first ho (Region.noSelect_spec hsel) (fun c a w h => hQ c a o.dst v w h) hS fuel L a w (Region.free_spec ho hf) hr hc hy hst hK

theorem mix_sound {S0 : World → Prop} {m : Nat} (hsel : Region.noSelect ops = true) (hQ : ∀ c (a : Act) d v w, Q (.panic c) (a.put d v) w → Q (.panic c) a w) : ∀ (ord : List (Mk × Nat)) (L : Array Bool) (a : Act) (w : World), Closed md ops L → mixOk md ops m ord L = true →
    (L.getD m false = false → S0 w) → wpMix P ops Q S0 ord a w → wpAnyS P md ops Q (Stage S0 m (nextLoud ops.size ord) w) ord.length L a w
  | [], L, a, w, hc, hok, hS, h => by
    simp only [mixOk, List.isEmpty_iff] at hok
    exact ⟨hok, h⟩
  | (k, i) :: r, L, a, w, hc, hok, hS, h => by
    simp only [mixOk, Bool.and_eq_true] at hok
    obtain ⟨h1, hok'⟩ := hok
    have hnl : L.getD (nextLoud ops.size ((k, i) :: r)) false = false → w = w := fun _ => rfl
    cases k with
    | w keep =>
      simp only [Bool.and_eq_true, beq_iff_eq, Bool.or_eq_true] at h1
      obtain ⟨hr, hk⟩ := h1
      unfold wpMix at h
      split at h
      · exact h.elim
      · rename_i o ho
        have hmem : i ∈ Region.ready md ops L := by rw [hr]; simp
        have hlt : i < L.size := by rw [hc.1]; exact (Array.getElem?_eq_some_iff.1 ho).1
        have hset : (L.setIfInBounds i true).getD i false = true := by simp [hlt]
        refine ⟨fun h0 => absurd hmem (by rw [h0]; simp), fun j hj => ?_⟩
        rw [hr] at hj
        simp at hj
        subst hj
        refine wpOp_mono (fun a' w' h' => ?_) (wpOp_of_list ho h)
        obtain ⟨hkeep, hrest⟩ := h'
        have hS' : (L.setIfInBounds j true).getD m false = false → S0 w' := fun hm => by
          rcases hk with (hk | hk) | hk
          · exact hkeep hk
          · subst hk; rw [hset] at hm; cases hm
          · rw [getD_set_true hk] at hm; cases hm
        have hsub : Stage S0 m (nextLoud ops.size ((.w keep, j) :: r)) w (L.setIfInBounds j true) w' := by
          refine ⟨fun hj' => ?_, hS'⟩
          simp only [nextLoud] at hj'
          rw [hset] at hj'; cases hj'
        refine ⟨hsub, ?_⟩
        refine wpAnyS_weaken (h0 := j) (fun L' w'' hL' hs' => ⟨fun hj' => ?_, hs'.2⟩) _ _ _ _ hset (mix_sound hsel hQ r _ a' w' (hc.set hmem) hok' hS' hrest)
        simp only [nextLoud] at hj'
        rw [hL'] at hj'; cases hj'
    | p =>
      simp only [Bool.and_eq_true, bne_iff_ne] at h1
      obtain ⟨⟨⟨hr, hf⟩, hm⟩, hn⟩ := h1
      have hmem : i ∈ Region.ready md ops L := by simpa using hr
      unfold wpMix at h
      split at h
      · exact h.elim
      · rename_i o ho
        have IH := fun a' (h' : wpMix P ops Q S0 r a' w) => mix_sound hsel hQ r _ a' w (hc.set hmem) hok' (fun h0 => hS (by rw [getD_set_ne false (Ne.symm hm)] at h0; exact h0)) h'
        refine look_first (k := .p) (r := r) ho hsel hQ hmem hf hm hn hc (fun _ _ _ _ _ => trivial) ⟨fun _ => rfl, hS⟩ ?_
        split
        · rename_i hw
          rw [if_pos hw] at h
          obtain ⟨v, hv, hn⟩ := h
          exact ⟨v, hv, IH _ hn⟩
        · rename_i hw
          rw [if_neg hw] at h
          exact IH _ h
    | l way =>
      simp only [Bool.and_eq_true, bne_iff_ne, Bool.or_eq_true, beq_iff_eq] at h1
      obtain ⟨⟨⟨⟨hr, hf⟩, hm⟩, hn⟩, hway⟩ := h1
      have hmem : i ∈ Region.ready md ops L := by simpa using hr
      unfold wpMix at h
      split at h
      · exact h.elim
      · rename_i o ho
        have IH := fun a' (h' : wpMix P ops Q S0 r a' w) => mix_sound hsel hQ r _ a' w (hc.set hmem) hok' (fun h0 => hS (by rw [getD_set_ne false (Ne.symm hm)] at h0; exact h0)) h'
        refine look_first (k := .l way) (r := r) ho hsel hQ hmem hf hm hn hc (fun L' w' c1 c2 c3 => c3.1 ?_) ⟨fun _ => rfl, hS⟩ ?_
        · rcases hway with hway | hway
          · rw [hway]; simp [Array.getD, c1.1]
          · exact c1.wayTo hway (getD_false_of_true c2)
        split
        · rename_i hw
          rw [if_pos hw] at h
          obtain ⟨v, hv, hn⟩ := h
          exact ⟨v, hv, IH _ hn⟩
        · rename_i hw
          rw [if_neg hw] at h
          exact IH _ h
    | h way =>
      simp only [Bool.and_eq_true, bne_iff_ne, Bool.or_eq_true, decide_eq_true_eq] at h1
      obtain ⟨⟨⟨⟨hr, hf⟩, hm⟩, hn⟩, hway⟩ := h1
      have hmem : i ∈ Region.ready md ops L := by simpa using hr
      unfold wpMix at h
      split at h
      · exact h.elim
      · rename_i o ho
        have IH := fun a' (h' : wpMix P ops Q S0 r a' w) => mix_sound hsel hQ r _ a' w (hc.set hmem) hok' (fun h0 => hS (by rw [getD_set_ne false (Ne.symm hm)] at h0; exact h0)) h'
        refine look_first (k := .h way) (r := r) ho hsel hQ hmem hf hm hn hc (fun L' w' c1 c2 c3 => c3.2 ?_) ⟨fun _ => rfl, hS⟩ ?_
        · rcases hway with hway | hway
          · have : ¬ m < L'.size := by rw [c1.1]; omega
            simp [Array.getD, this]
          · exact c1.wayTo hway (getD_false_of_true c2)
        split
        · rename_i hw
          rw [if_pos hw] at h
          obtain ⟨v, hv, hn⟩ := h
          exact ⟨v, hv, IH _ hn⟩
        · rename_i hw
          rw [if_neg hw] at h
          exact IH _ h

/-- A region that draws its order, walked in the order 'ord'. -/
theorem wp_region_mix {id : Nat} {a : Act} {w : World} {l : List Oper} (S0 : World → Prop) (m : Nat) (ord : List (Mk × Nat)) (hm : P.follows .mixedOrders = true) (hsel : Region.noSelect l.toArray = true)
    (hlen : ord.length = l.length)
    (hok : mixOk .any l.toArray m ord (Array.replicate l.toArray.size false) = true)
    (hS : S0 w.drew) (h : wpMix P l.toArray (noPan Q) S0 ord a w.drew) : (Code.region id l.toArray true).wp P Q a w := by
  refine Code.wp_mono noPan_imp ?_
  have hQ : ∀ c (a : Act) d v w, noPan Q (.panic c) (a.put d v) w → noPan Q (.panic c) a w := fun _ _ _ _ _ h => h
  refine wp_region_any hm ?_
  have hc : Closed .any l.toArray (Array.replicate l.toArray.size false) := ⟨by simp, fun j o hj hl => by
    exfalso
    rcases Nat.lt_or_ge j l.toArray.size with h' | h' <;> simp [Array.getD] at hl⟩
  have := mix_sound (md := .any) hsel hQ ord _ a w.drew hc hok (fun _ => hS) h
  rw [hlen] at this
  exact wpAny_of_S _ _ _ _ this

/-- One operation that only looks. -/
theorem wpMix_look {S0 : World → Prop} {k : Mk} {i : Nat} {o : Oper} {r : List (Mk × Nat)} {a : Act} {w : World} (ho : ops[i]? = some o) (hk : (match k with | .w _ => false | _ => true) = true)
    (h : ∀ K : Act → Prop, (∀ a, wpMix P ops Q S0 r a w → K a) → if Region.wanted o (yielded ops a.tmps) then lookOp P o a (k.cls S0 w) K else K (a.put o.dst undef)) : wpMix P ops Q S0 ((k, i) :: r) a w := by
  have := h _ (fun _ h => h)
  cases k <;> first | (simp at hk; done) | (unfold wpMix; simp only [ho]; exact this)

/-- One operation that looks at a held fact. -/
theorem wpMix_held {S0 : World → Prop} {l : List Nat} {i : Nat} {o : Oper} {r : List (Mk × Nat)} {a : Act} {w : World} (ho : ops[i]? = some o) (hg : o.guard = none) (v : Value)
    (hv : ∀ w', S0 w' → lookUpon w' v ((execOp a.eval o).run P w')) (h : ∀ K : Act → Prop, (∀ a, wpMix P ops Q S0 r a w → K a) → K (a.put o.dst v)) : wpMix P ops Q S0 ((.h l, i) :: r) a w := by
  have := h _ (fun _ h => h)
  unfold wpMix
  simp only [ho, Region.wanted, hg, if_true]
  exact ⟨v, hv, this⟩
/-- One loud operation. -/
theorem wpMix_loud {S0 : World → Prop} {i : Nat} {o : Oper} {r : List (Mk × Nat)} {a : Act} {w : World} {keep : Bool} (ho : ops[i]? = some o)
    (h : ∀ K : Act → World → Prop, (∀ a w, (keep = true → S0 w) → wpMix P ops Q S0 r a w → K a w) → wpList P ops (thenN K Q) [o] a w) : wpMix P ops Q S0 ((.w keep, i) :: r) a w := by
  unfold wpMix
  simp only [ho]
  exact h _ (fun _ _ h1 h2 => ⟨h1, h2⟩)
theorem wpMix_nil {S0 : World → Prop} {a : Act} {w : World} (h : Q .normal a w) : wpMix P ops (noPan Q) S0 [] a w := h
end
attribute [go_sem] lookOp lookUpon Mk.cls
end Go.Proofs.YtnoplebjkbfedaaDoor
