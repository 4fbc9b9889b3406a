/- What stays of a world when some blocks are written; slices that read as lists. Plain theorems over any program. -/
import Derived.WalkKit
import Derived.Deep.QuietTactic
import Derived.BigQuiet
import Derived.Lib.Hide
import Derived.Deep.DeepCutAuto
import Derived.Deep.LoopGhost
import Derived.WalkSpells
import Derived.IntWalk
import Derived.Test.YtnoplebjkbfedaaDoorReg
import Derived.Test.YtnoplebjkbfedaaDoorSpec
namespace Go.Proofs.YtnoplebjkbfedaaDoor
open Go Go.RowKit

theorem quiet_same_add {P : Program} {f : FuncId} {args : Array Value} {w : World} {m n : Nat} {v : Value} (h : Calls P f args (w.drewN (m + n)) fun e w' => e = .returned v ∧ w' = w.drewN (m + n)) :
    Calls P f args (w.drewN (m + n)) fun e w'' => e = .returned v ∧ ∃ k, w'' = w.drewN (m + k) := h.mono fun _ _ ⟨he, hm⟩ => ⟨he, n, hm⟩
theorem quiet_add {P : Program} {f : FuncId} {args : Array Value} {w : World} {m n : Nat} {v : Value} (h : Calls P f args (w.drewN (m + n)) fun e w' => e = .returned v ∧ ∃ k, w' = (w.drewN (m + n)).drewN k) :
    Calls P f args (w.drewN (m + n)) fun e w'' => e = .returned v ∧ ∃ k, w'' = w.drewN (m + k) := h.mono fun _ _ ⟨he, k, hm⟩ => ⟨he, n + k, by rw [hm, World.drewN_drewN, Nat.add_assoc]⟩

/-- What stood outside of S is as it was. -/
structure Fr (S : Nat → Prop) (w w' : World) : Prop where
  os : w'.os = w.os
  tape : w'.tape = w.tape
  output : w'.output = w.output
  size : w.heap.size ≤ w'.heap.size
  block : ∀ k, k < w.heap.size → ¬ S k → w'.heap[k]? = w.heap[k]?
theorem Fr.refl (S : Nat → Prop) (w : World) : Fr S w w := ⟨rfl, rfl, rfl, Nat.le_refl _, fun _ _ _ => rfl⟩
theorem Fr.trans {S : Nat → Prop} {a b c : World} (h : Fr S a b) (k : Fr S b c) : Fr S a c :=
  ⟨k.os.trans h.os, k.tape.trans h.tape, k.output.trans h.output, Nat.le_trans h.size k.size, fun i hi hs => (k.block i (Nat.lt_of_lt_of_le hi h.size) hs).trans (h.block i hi hs)⟩
/-- The second step may write what stood at its own begin and did not stand at the first's. -/
theorem Fr.trans' {S T : Nat → Prop} {a b c : World} (h : Fr S a b) (k : Fr T b c) (hT : ∀ i, i < a.heap.size → T i → S i) : Fr S a c :=
  ⟨k.os.trans h.os, k.tape.trans h.tape, k.output.trans h.output, Nat.le_trans h.size k.size, fun i hi hs => (k.block i (Nat.lt_of_lt_of_le hi h.size) (fun t => hs (hT i hi t))).trans (h.block i hi hs)⟩
theorem Fr.mono {S T : Nat → Prop} {a b : World} (h : Fr S a b) (hT : ∀ i, S i → T i) : Fr T a b :=
  ⟨h.os, h.tape, h.output, h.size, fun i hi hs => h.block i hi (fun t => hs (hT i t))⟩
theorem Fr.drewN {S : Nat → Prop} {a b : World} (h : Fr S a b) (n : Nat) : Fr S a (b.drewN n) := ⟨h.os, h.tape, h.output, h.size, h.block⟩
theorem Fr.drew {S : Nat → Prop} {a b : World} (h : Fr S a b) : Fr S a b.drew := ⟨h.os, h.tape, h.output, h.size, h.block⟩
theorem Fr.of_drewN {S : Nat → Prop} {a b : World} {n : Nat} (h : Fr S (a.drewN n) b) : Fr S a b := ⟨h.os, h.tape, h.output, h.size, h.block⟩
theorem Fr.of_drew {S : Nat → Prop} {a b : World} (h : Fr S a.drew b) : Fr S a b := ⟨h.os, h.tape, h.output, h.size, h.block⟩
theorem Fr.alloc {S : Nat → Prop} {a b : World} (h : Fr S a b) (o : Obj) : Fr S a (b.alloc o) :=
  h.trans ⟨rfl, rfl, rfl, by simp, fun k hk _ => Below.heap_alloc _ _ _ hk⟩
theorem Fr.setCell {S : Nat → Prop} {a b : World} (h : Fr S a b) {p : Addr} (hp : p.block < a.heap.size → S p.block) (u : Value) : Fr S a (b.setCell p u) :=
  ⟨h.os, h.tape, h.output, by simpa [World.setCell] using h.size, fun k hk hs => by
    rw [Below.heap_setCell _ _ _ _ (fun e => hs (by subst e; exact hp hk))]; exact h.block k hk hs⟩
theorem Fr.set1 {g : Nat} {a b : World} (h : Fr (fun k => k = g) a b) (j : Nat) (u : Value) : Fr (fun k => k = g) a (b.setCell ⟨g, j, none⟩ u) := h.setCell (p := ⟨g, j, none⟩) (fun _ => rfl) u
theorem Fr.of_grown {b c : World} {row : Option Nat} (hg : b.grownBy c row) : Fr (fun k => some k = row) b c := ⟨hg.os, hg.tape, hg.output, hg.size, hg.block⟩
theorem Fr.grown {S : Nat → Prop} {a b c : World} {row : Option Nat} (h : Fr S a b) (hg : b.grownBy c row) (hr : ∀ k, row = some k → k < a.heap.size → S k) : Fr S a c :=
  h.trans' (Fr.of_grown hg) (fun i hi e => hr i e.symm hi)
theorem Fr.to_below {S : Nat → Prop} {a b : World} {B : Nat} (h : Fr S a b) (hB : B ≤ a.heap.size) (hS : ∀ k, S k → B ≤ k) : Below B a b :=
  ⟨h.os, h.tape, h.output, h.size, fun k hk => h.block k (by omega) (fun s => by have := hS k s; omega)⟩
theorem Fr.of_below {S : Nat → Prop} {a b : World} (h : Below a.heap.size a b) : Fr S a b := ⟨h.os, h.tape, h.output, h.size, fun k hk _ => h.block k hk⟩
theorem Fr.cell {S : Nat → Prop} {a b : World} (h : Fr S a b) {p : Addr} {v : Value} (hp : a.cell? p = some v) (hS : ¬ S p.block) : b.cell? p = some v :=
  (World.cell?_of_block (h.block p.block (World.block_lt_of_cell? a p hp) hS)).trans hp

/-- A slice whose elements are of one cell each reads as a list; its cells lie in blocks of F. -/
def Rd1 {α : Type} (enc : α → Value) (w : World) (F : Nat → Prop) (v : Value) (xs : List α) : Prop :=
  (v = .slice none 0 0 ∧ xs = []) ∨ ∃ b o cap, v = .slice (some ⟨b, o, none⟩) xs.length cap ∧ F b ∧ xs.length ≤ cap ∧ cap ≤ 9223372036854775807 ∧ ∀ j x, xs[j]? = some x → w.cell? ⟨b, o + j, none⟩ = some (enc x)
theorem Rd1.nil {α : Type} {enc : α → Value} {w : World} {F : Nat → Prop} : Rd1 enc w F (.slice none 0 0) [] := .inl ⟨rfl, rfl⟩
theorem Rd1.kept {α : Type} {enc : α → Value} {w w' : World} {F G : Nat → Prop} {v : Value} {xs : List α} (h : Rd1 enc w F v xs) (hb : ∀ b, F b → w'.heap[b]? = w.heap[b]?) (hF : ∀ b, F b → G b) : Rd1 enc w' G v xs := by
  rcases h with h | ⟨b, o, cap, hv, hf, hl, hc, hx⟩
  · exact .inl h
  · exact .inr ⟨b, o, cap, hv, hF b hf, hl, hc, fun j x hj => (World.cell?_of_block (hb b hf)).trans (hx j x hj)⟩

/-- A row of the call's own reads as a list. -/
theorem Rd1.of_own {α : Type} {enc : α → Value} {w : World} {F : Nat → Prop} {base : Nat} {e : TypeId} {v : Value} {xs : List α} (h : w.ownsRow base e 1 v xs.length (xs.map enc)) (hF : ∀ k, v.ownBlock = some k → F k) : Rd1 enc w F v xs := by
  have h0 := h
  rcases h.2 with ⟨rfl, hn⟩ | ⟨g, cap, cur, rfl, hb, hg, hl, hm, hs, ht⟩
  · exact .inl ⟨rfl, List.eq_nil_of_length_eq_zero hn⟩
  · refine .inr ⟨g, 0, cap, rfl, hF g rfl, hl, by unfold maxLen at hm; omega, fun j x hj => ?_⟩
    have := h0.cells (g := g) rfl j (enc x) (by simp [hj])
    rw [Addr.add_lit] at this
    exact this

theorem Fr.owns {S : Nat → Prop} {w w' : World} (h : Fr S w w') {base : Nat} {e : TypeId} {size : Nat} {v : Value} {n : Nat} {xs : List Value} (ho : w.ownsRow base e size v n xs) (hne : ∀ k, v.ownBlock = some k → ¬ S k) : w'.ownsRow base e size v n xs := by
  refine ⟨ho.1, ?_⟩
  rcases ho.2 with hn | ⟨g, cap, cur, rfl, hb, hgg, rest⟩
  · exact .inl hn
  · exact .inr ⟨g, cap, cur, rfl, hb, (h.block g (Array.getElem?_eq_some_iff.1 hgg).1 (hne g rfl)).trans hgg, rest⟩
theorem own_lt' {w : World} {base : Nat} {e : TypeId} {size : Nat} {v : Value} {n : Nat} {xs : List Value} (ho : w.ownsRow base e size v n xs) (k : Nat) (hk : v.ownBlock = some k) : k < w.heap.size := (ho.lt k hk).2
/-- Where a row stands that was appended to: where it stood, or in a new block. -/
theorem heap_cell5 {w : World} {g : Nat} {c : Array Value} {t : TypeId} {fr : Nat × Nat} (h : w.heap[g]? = some (.cells c t fr)) (j : Nat) (u : Value) : (w.setCell ⟨g, j, none⟩ u).heap[g]? = some (.cells (c.setIfInBounds j u) t fr) := by
  simp only [World.setCell, Array.getElem?_modify, if_true, h, Option.map_some]
  rfl

theorem own_form {w : World} {base : Nat} {e : TypeId} {size n : Nat} {v : Value} {xs : List Value} (h : w.ownsRow base e size v n xs) (hn : 0 < n) : ∃ g cap, v = .slice (some ⟨g, 0, none⟩) n cap ∧ base ≤ g ∧ n ≤ cap := by
  rcases h.2 with ⟨_, h0⟩ | ⟨g, cap, cur, rfl, hb, _, hc, _⟩
  · omega
  · exact ⟨g, cap, rfl, hb, hc⟩
/-- append to a row of the call's own: the row stays in its block, or is a new block. -/
theorem append_own2 {P : Program} (w : World) (base : Nat) (t ty e : TypeId) (i : TypeInfo) (z : Value) (size bytes : Nat) (ht : P.underlying t = some (.slice e)) (hi : P.info? e = some i) (hz : i.zero = some z)
    (hsize : i.size = size) (hby : i.bytes = bytes) (hzs : z.cells.size = size) (hsp : 0 < size)
    (v : Value) (n : Nat) (xs : List Value) (hown : w.ownsRow base e size v n xs)
    (a : Addr) (m c : Nat) (hm : 0 < m) (news : List Value) (hl : news.length = m * size) (hnews : ∀ j u, news[j]? = some u → w.cell? (a.add j) = some u) (h1 : ∀ u ∈ news, u.oneCell' = true)
    (h63 : n + m ≤ maxLen) (hbytes : (n + m) * bytes ≤ 140737488355328) (hbase : base ≤ w.heap.size) :
    ∃ v' w', (Builtin.append_ #[t, t] ty #[v, .slice (some a) m c]).run P w = .ok v' w' ∧ w'.ownsRow base e size v' (n + m) (xs ++ news) ∧ w.grownBy w' v.ownBlock ∧ (v'.ownBlock = v.ownBlock ∨ v'.ownBlock = some w.heap.size) := by
  obtain ⟨v', w', hr, h2, h3, h4⟩ := run_append_own (P := P) w base t ty e i z size bytes ht hi hz hsize hby hzs hsp v n xs hown a m c news hl hnews h1 h63 hbytes hbase
  refine ⟨v', w', hr, h2, h3, ?_⟩
  subst hsize
  subst hby
  have hx : n + m ≤ 9223372036854775807 := by simp only [maxLen] at h63; omega
  rcases hown.2 with ⟨rfl, rfl⟩ | ⟨g, cap, cur, rfl, hbg, hg, hnc, hcm, hcs, htake⟩
  · have hr2 := run_append_nil (P := P) w t ty e i z ht hi hz a m c news hl hnews hm (by omega) (by simp only [Nat.zero_add] at hbytes; omega)
    rw [hr] at hr2
    injection hr2 with hr2 _
    right; rw [hr2]; rfl
  · by_cases hroom : n + m ≤ cap
    · have hr2 := run_append_room (P := P) w t ty e i ht hi g n cap cur hg a m c news hl hnews h1 hroom (by rw [hl, hcs, ← Nat.add_mul]; exact Nat.mul_le_mul_right _ hroom)
      rw [hr] at hr2
      injection hr2 with hr2 _
      left; rw [hr2]; rfl
    · have hr2 := run_append_grow (P := P) w t ty e i z ht hi hz ⟨g, 0, none⟩ n cap xs hown.1 (hown.cells (g := g) rfl) a m c news hl hnews (by omega) (by omega) (growslice_fits (by omega) hbytes)
      rw [hr] at hr2
      injection hr2 with hr2 _
      right; rw [hr2]; rfl
theorem wpList_append_own2 {P : Program} {w : World} {ops : Array Oper} {rest : List Oper} {o : Oper} {a : Act} {Q : Exit → Act → World → Prop} (hgd : o.guard = none) (s x : Operand) (t : TypeId)
    (ho : o.op = .call { callee := .builtin .append, args := #[s, x], argTypes := #[t, t] })
    (base : Nat) (e : TypeId) (i : TypeInfo) (z : Value) (size bytes : Nat) (ht : P.underlying t = some (.slice e)) (hi : P.info? e = some i) (hz : i.zero = some z)
    (hsize : i.size = size) (hby : i.bytes = bytes) (hzs : z.cells.size = size) (hsp : 0 < size)
    (v : Value) (n : Nat) (xs : List Value) (hs : a.eval s = v) (hown : w.ownsRow base e size v n xs)
    (ad : Addr) (m c : Nat) (hm : 0 < m) (news : List Value) (hx : a.eval x = .slice (some ad) m c) (hl : news.length = m * size) (hnews : ∀ j u, news[j]? = some u → w.cell? (ad.add j) = some u) (h1 : ∀ u ∈ news, u.oneCell' = true)
    (h63 : n + m ≤ maxLen) (hbytes : (n + m) * bytes ≤ 140737488355328) (hbase : base ≤ w.heap.size)
    (h : ∀ g cap w', w'.ownsRow base e size (.slice (some ⟨g, 0, none⟩) (n + m) cap) (n + m) (xs ++ news) → w.grownBy w' v.ownBlock → (some g = v.ownBlock ∨ g = w.heap.size) → wpList P ops Q rest (a.put o.dst (.slice (some ⟨g, 0, none⟩) (n + m) cap)) w') : wpList P ops Q (o :: rest) a w := by
  refine wpList_plain hgd fun K hK => ?_
  obtain ⟨v', w', hr, h2, h3, h4⟩ := append_own2 (P := P) w base t o.type e i z size bytes ht hi hz hsize hby hzs hsp v n xs hown ad m c hm news hl hnews h1 h63 hbytes hbase
  obtain ⟨g, cap, rfl, _, _⟩ := own_form h2 (by omega)
  unfold Oper.wp execOp
  simp only [ho, resolve, invoke, builtin, Sem.run_bind, Sem.run_pure, Result.andThen_ok, List.map_toArray, List.map_cons, List.map_nil, hs, hx, hr]
  exact hK _ _ (h g cap w' h2 h3 (by simpa [Value.ownBlock, eq_comm] using h4))

def VCells (w : World) (F : Nat → Prop) (v : FV) (cs : List Value) : Prop :=
  ∃ nv sv, cs = [.int .i64 v.T, nv, sv, .slice none 0 0] ∧ Rd1 (.int .i64) w F nv v.N ∧ Rd1 .string w F sv v.S
theorem VCells.kept {w w' : World} {F G : Nat → Prop} {v : FV} {cs : List Value} (h : VCells w F v cs) (hb : ∀ b, F b → w'.heap[b]? = w.heap[b]?) (hF : ∀ b, F b → G b) : VCells w' G v cs := by
  obtain ⟨nv, sv, h1, h2, h3⟩ := h
  exact ⟨nv, sv, h1, h2.kept hb hF, h3.kept hb hF⟩
def TokCells (w : World) (F : Nat → Prop) (t : Tok) (cs : List Value) : Prop :=
  ∃ vc, VCells w F t.v vc ∧ cs = [.int .i64 t.kind, .int .i64 t.at_, .int .i64 t.end_, .string t.text] ++ vc
theorem TokCells.kept {w w' : World} {F G : Nat → Prop} {t : Tok} {cs : List Value} (h : TokCells w F t cs) (hb : ∀ b, F b → w'.heap[b]? = w.heap[b]?) (hF : ∀ b, F b → G b) : TokCells w' G t cs := by
  obtain ⟨vc, h1, h2⟩ := h
  exact ⟨vc, h1.kept hb hF, h2⟩
theorem TokCells.length {w : World} {F : Nat → Prop} {t : Tok} {cs : List Value} (h : TokCells w F t cs) : cs.length = 8 := by
  obtain ⟨vc, ⟨nv, sv, rfl, _⟩, rfl⟩ := h
  rfl
theorem oneCell_slice (a : Option Addr) (n c : Nat) : (Value.slice a n c).oneCell' = true := rfl
theorem Rd1.oneCell {α : Type} {enc : α → Value} {w : World} {F : Nat → Prop} {v : Value} {xs : List α} (h : Rd1 enc w F v xs) : v.oneCell' = true := by
  rcases h with ⟨rfl, _⟩ | ⟨b, o, cap, rfl, _⟩ <;> rfl
theorem Rd1.slice {α : Type} {enc : α → Value} {w : World} {F : Nat → Prop} {v : Value} {xs : List α} (h : Rd1 enc w F v xs) : ∃ a n c, v = .slice a n c := by
  rcases h with ⟨rfl, _⟩ | ⟨b, o, cap, rfl, _⟩ <;> exact ⟨_, _, _, rfl⟩
theorem TokCells.oneCell {w : World} {F : Nat → Prop} {t : Tok} {cs : List Value} (h : TokCells w F t cs) : ∀ u ∈ cs, u.oneCell' = true := by
  obtain ⟨vc, ⟨nv, sv, rfl, h1, h2⟩, rfl⟩ := h
  intro u hu
  simp at hu
  rcases hu with rfl | rfl | rfl | rfl | rfl | rfl | rfl | rfl <;> first | rfl | exact h1.oneCell | exact h2.oneCell

/-- The lexer at block g: its text, its place, its tokens, its error and the error's place. -/
def IsLx (w : World) (B g : Nat) (s : ByteArray) (st : LxSt) (lv : Value) : Prop :=
  B ≤ g ∧ w.heap[g]? = some (.cells #[.string s, .int .i64 st.at_, lv, .int .i64 st.err, .int .i64 st.bad] 44 (0, 0)) ∧ lv.ownBlock ≠ some g ∧
  ∃ ts : List (Tok × List Value), st.toks = ts.map Prod.fst ∧ w.ownsRow B 38 8 lv ts.length (ts.map Prod.snd).flatten ∧
    ∀ p ∈ ts, TokCells w (fun b => b < w.heap.size ∧ b ≠ g ∧ some b ≠ lv.ownBlock) p.1 p.2
/-- What the lexer's methods may write: the lexer, the row of its tokens. -/
def LxS (g : Nat) (lv : Value) (k : Nat) : Prop := k = g ∨ some k = lv.ownBlock
theorem IsLx.lt {w : World} {B g : Nat} {s : ByteArray} {st : LxSt} {lv : Value} (h : IsLx w B g s st lv) : g < w.heap.size := (Array.getElem?_eq_some_iff.1 h.2.1).1
theorem IsLx.upd {w w' : World} {B g : Nat} {s : ByteArray} {st st' : LxSt} {lv : Value} (h : IsLx w B g s st lv) (hb : w'.heap[g]? = some (.cells #[.string s, .int .i64 st'.at_, lv, .int .i64 st'.err, .int .i64 st'.bad] 44 (0, 0)))
    (ht : st'.toks = st.toks) (hf : Fr (fun k => k = g) w w') : IsLx w' B g s st' lv := by
  obtain ⟨hB, hg, hne, ts, hts, hown, htok⟩ := h
  refine ⟨hB, hb, hne, ts, ht.trans hts, hf.owns hown (fun k hk e => hne (by rw [hk, e])), fun p hp => (htok p hp).kept (fun b hb => hf.block b hb.1 hb.2.1) (fun b hb => ⟨Nat.lt_of_lt_of_le hb.1 hf.size, hb.2.1, hb.2.2⟩)⟩
theorem IsLx.keep {w w' : World} {B g : Nat} {s : ByteArray} {st : LxSt} {lv : Value} {S : Nat → Prop} (h : IsLx w B g s st lv) (hf : Fr S w w') (hS : ∀ k, k < w.heap.size → ¬ S k) : IsLx w' B g s st lv := by
  have hlt := (Array.getElem?_eq_some_iff.1 h.2.1).1
  exact h.upd ((hf.block g hlt (hS g hlt)).trans h.2.1) rfl ⟨hf.os, hf.tape, hf.output, hf.size, fun k hk _ => hf.block k hk (hS k hk)⟩
theorem IsLx.drewN {w : World} {B g : Nat} {s : ByteArray} {st : LxSt} {lv : Value} (h : IsLx w B g s st lv) (n : Nat) : IsLx (w.drewN n) B g s st lv := h
theorem flat8 : ∀ (ts : List (Tok × List Value)), (∀ p ∈ ts, p.2.length = 8) → (ts.map Prod.snd).flatten.length = ts.length * 8
  | [], _ => rfl
  | p :: r, h => by
    have := flat8 r (fun q hq => h q (List.mem_cons_of_mem _ hq))
    have h0 := h p (List.mem_cons_self ..)
    simp only [List.map_cons, List.flatten_cons, List.length_append, List.length_cons]
    omega
/-- The cells of the last token. -/
theorem IsLx.last {w : World} {B g : Nat} {s : ByteArray} {st : LxSt} {lv : Value} (h : IsLx w B g s st lv) {tk : List Tok} {t : Tok} (ht : st.toks = tk ++ [t]) :
    ∃ lb cap na nn nc sa sn sc, lv = .slice (some ⟨lb, 0, none⟩) (tk.length + 1) cap ∧ tk.length + 1 ≤ cap ∧ lb < w.heap.size ∧ w.cell? ⟨lb, tk.length * 8, none⟩ = some (.int .i64 t.kind) ∧ w.cell? ⟨lb, tk.length * 8 + 1, none⟩ = some (.int .i64 t.at_) ∧ w.cell? ⟨lb, tk.length * 8 + 2, none⟩ = some (.int .i64 t.end_) ∧
      w.cell? ⟨lb, tk.length * 8 + 3, none⟩ = some (.string t.text) ∧ w.cell? ⟨lb, tk.length * 8 + 4, none⟩ = some (.int .i64 t.v.T) ∧ w.cell? ⟨lb, tk.length * 8 + 5, none⟩ = some (.slice na nn nc) ∧ w.cell? ⟨lb, tk.length * 8 + 6, none⟩ = some (.slice sa sn sc) ∧ w.cell? ⟨lb, tk.length * 8 + 7, none⟩ = some (.slice none 0 0) := by
  obtain ⟨hB, hg, hne, ts, hts, hown, htok⟩ := h
  rw [ht] at hts
  obtain ⟨ts', p, rfl⟩ : ∃ ts' p, ts = ts' ++ [p] := by
    rcases List.eq_nil_or_concat ts with rfl | ⟨ts', p, rfl⟩
    · simp at hts
    · exact ⟨ts', p, by simp⟩
  simp only [List.map_append, List.map_cons, List.map_nil] at hts hown
  obtain ⟨h1, h2⟩ := List.append_inj' hts rfl
  simp at h2
  subst h2
  have hl : tk.length = ts'.length := by rw [h1]; simp
  have hp := htok p (by simp)
  obtain ⟨vc, ⟨nv, sv, e1, hN, hS⟩, e2⟩ := hp
  obtain ⟨na, nn, nc, rfl⟩ := hN.slice
  obtain ⟨sa, sn, sc, rfl⟩ := hS.slice
  have h8 := flat8 ts' (fun q hq => (htok q (by simp [hq])).length)
  obtain ⟨lb, cap, rfl, hBlb, hcap⟩ := own_form hown (by simp)
  have hc := hown.cells (g := lb) rfl
  have hlt := own_lt' hown lb rfl
  have key : ∀ j u, p.2[j]? = some u → w.cell? ⟨lb, tk.length * 8 + j, none⟩ = some u := fun j u hu => by
    have := hc (tk.length * 8 + j) u (by
      rw [List.flatten_append, List.getElem?_append_right (by omega), h8, hl]
      simpa using hu)
    rw [Addr.add_lit, Nat.zero_add] at this
    exact this
  simp only [List.length_append, List.length_cons, List.length_nil, Nat.zero_add] at hcap
  refine ⟨lb, cap, na, nn, nc, sa, sn, sc, by simp [hl], by omega, hlt, key 0 _ ?_, key 1 _ ?_, key 2 _ ?_, key 3 _ ?_, key 4 _ ?_, key 5 _ ?_, key 6 _ ?_, key 7 _ ?_⟩ <;> simp [e2, e1]
theorem IsLx.cells {w : World} {B g : Nat} {s : ByteArray} {st : LxSt} {lv : Value} (h : IsLx w B g s st lv) :
    w.cell? ⟨g, 0, none⟩ = some (.string s) ∧ w.cell? ⟨g, 1, none⟩ = some (.int .i64 st.at_) ∧ w.cell? ⟨g, 2, none⟩ = some lv ∧ w.cell? ⟨g, 3, none⟩ = some (.int .i64 st.err) ∧ w.cell? ⟨g, 4, none⟩ = some (.int .i64 st.bad) ∧
    (∀ j, j < 5 → w.frozen? ⟨g, j, none⟩ = false) := by
  have hb := h.2.1
  refine ⟨?_, ?_, ?_, ?_, ?_, ?_⟩ <;> simp [World.cell?, World.frozen?, hb]
end Go.Proofs.YtnoplebjkbfedaaDoor
