/- Join: the walk. -/
import Derived.Test.YtnoplebjkbfedaaDoorD6
namespace Go.Proofs.YtnoplebjkbfedaaDoor
open Go Go.RowKit
set_option linter.unusedSimpArgs false
set_option linter.unusedVariables false
set_option maxRecDepth 100000
theorem flat8_get : ∀ (ts : List (Tok × List Value)) (k : Nat) (p : Tok × List Value), (∀ q ∈ ts, q.2.length = 8) → ts[k]? = some p → ∀ j u, p.2[j]? = some u → (ts.map Prod.snd).flatten[k * 8 + j]? = some u
  | [], k, p, _, h, _, _, _ => by simp at h
  | q :: r, 0, p, hl, h, j, u, hj => by
    simp at h
    subst h
    have : j < q.2.length := (List.getElem?_eq_some_iff.1 hj).1
    simp only [List.map_cons, List.flatten_cons, Nat.zero_mul, Nat.zero_add]
    rw [List.getElem?_append_left this]
    exact hj
  | q :: r, k + 1, p, hl, h, j, u, hj => by
    have h8 := hl q (List.mem_cons_self ..)
    have ih := flat8_get r k p (fun x hx => hl x (List.mem_cons_of_mem _ hx)) (by simpa using h) j u hj
    simp only [List.map_cons, List.flatten_cons]
    rw [List.getElem?_append_right (by omega), h8, show (k + 1) * 8 + j - 8 = k * 8 + j by omega]
    exact ih
/-- The cells of token k. -/
theorem TokRow.tok {w : World} {base : Nat} {lv : Value} {toks : List Tok} (h : TokRow w base lv toks) {k : Nat} {t : Tok} (hk : toks[k]? = some t) :
    ∃ lb cap na nc sa sc, lv = .slice (some ⟨lb, 0, none⟩) toks.length cap ∧ toks.length ≤ cap ∧ lb < w.heap.size ∧ base ≤ lb ∧ w.cell? ⟨lb, k * 8, none⟩ = some (.int .i64 t.kind) ∧ w.cell? ⟨lb, k * 8 + 1, none⟩ = some (.int .i64 t.at_) ∧ w.cell? ⟨lb, k * 8 + 2, none⟩ = some (.int .i64 t.end_) ∧
      w.cell? ⟨lb, k * 8 + 3, none⟩ = some (.string t.text) ∧ w.cell? ⟨lb, k * 8 + 4, none⟩ = some (.int .i64 t.v.T) ∧ w.cell? ⟨lb, k * 8 + 5, none⟩ = some (.slice na t.v.N.length nc) ∧ w.cell? ⟨lb, k * 8 + 6, none⟩ = some (.slice sa t.v.S.length sc) ∧ w.cell? ⟨lb, k * 8 + 7, none⟩ = some (.slice none 0 0) ∧
      Rd1 (.int .i64) w (fun b => b < w.heap.size) (.slice na t.v.N.length nc) t.v.N ∧ Rd1 .string w (fun b => b < w.heap.size) (.slice sa t.v.S.length sc) t.v.S := by
  obtain ⟨ts, hts, hown, htok⟩ := h
  have hlen : toks.length = ts.length := by rw [hts]; simp
  have hkl : k < ts.length := by rw [← hlen]; exact (List.getElem?_eq_some_iff.1 hk).1
  obtain ⟨p, hp⟩ : ∃ p, ts[k]? = some p := ⟨_, List.getElem?_eq_getElem hkl⟩
  have hpt : p.1 = t := by
    rw [hts, List.getElem?_map, hp] at hk
    simpa using hk
  have hpm : p ∈ ts := List.mem_of_getElem? hp
  obtain ⟨vc, ⟨nv, sv, e1, hN, hS⟩, e2⟩ := htok p hpm
  rw [hpt] at e1 e2 hN hS
  obtain ⟨na, nc, rfl⟩ := hN.shape
  obtain ⟨sa, sc, rfl⟩ := hS.shape
  obtain ⟨lb, cap, rfl, hB, hcap⟩ := own_form hown (by omega)
  have hc := hown.cells (g := lb) rfl
  have key : ∀ j u, p.2[j]? = some u → w.cell? ⟨lb, k * 8 + j, none⟩ = some u := fun j u hu => by
    have := hc (k * 8 + j) u (flat8_get ts k p (fun q hq => (htok q hq).length) hp j u hu)
    rw [Addr.add_lit, Nat.zero_add] at this
    exact this
  refine ⟨lb, cap, na, nc, sa, sc, by rw [hlen], by omega, own_lt' hown lb rfl, hB, key 0 _ ?_, key 1 _ ?_, key 2 _ ?_, key 3 _ ?_, key 4 _ ?_, key 5 _ ?_, key 6 _ ?_, key 7 _ ?_, hN, hS⟩ <;> simp [e2, e1]
def joinTxt (t : Tok) : List UInt8 := if t.kind = 3 then quoteL t.text.data.toList else t.text.data.toList
def joinS (toks : List Tok) : List UInt8 := Lib.join (toks.map joinTxt) [32]
def strOf (t : Tok) : ByteArray := ⟨(joinTxt t).toArray⟩
theorem take_map_succ {α β : Type} (f : α → β) (l : List α) (k : Nat) (x : α) (h : l[k]? = some x) : (l.take (k + 1)).map f = (l.take k).map f ++ [f x] := by
  obtain ⟨hk, hx⟩ := List.getElem?_eq_some_iff.1 h
  rw [List.take_succ_eq_append_getElem hk, List.map_append, hx]
  rfl
def JoinInv (w : World) (toks : List Tok) (v : Value) (k : Nat) (w' : World) : Prop :=
  w'.ownsRow w.heap.size 9 1 v k ((toks.take k).map fun t => .string (strOf t)) ∧ Fr (fun _ => False) w w'
theorem JoinInv.next {w wr w2 w8 : World} {toks : List Tok} {v : Value} {k : Nat} {t : Tok} {g cap : Nat} {u : List Value} (F : Fr (fun _ => False) w wr) (own : wr.ownsRow w.heap.size 9 1 v k ((toks.take k).map fun t => .string (strOf t))) (ht : toks[k]? = some t) (F2 : Fr (fun _ => False) wr w2)
    (own8 : w8.ownsRow w.heap.size 9 1 (.slice (some ⟨g, 0, none⟩) (k + 1) cap) (k + 1) (((toks.take k).map fun t => .string (strOf t)) ++ u)) (hu : u = [.string (strOf t)]) (hgr : w2.grownBy w8 v.ownBlock) : JoinInv w toks (.slice (some ⟨g, 0, none⟩) (k + 1) cap) (k + 1) w8 := by
  refine ⟨?_, ?_⟩
  · rw [take_map_succ _ _ _ _ ht, ← hu]
    exact own8
  · exact (F.trans F2).grown hgr (fun j hj hlt => by have := (own.lt j hj).1; omega)
set_option maxHeartbeats 1600000 in
theorem Join_nil {w : World} {base : Nat} {lv : Value} (h : TokRow w base lv []) :
    Calls Tryd.prog 8 #[lv] w fun e w' => e = .returned (.string ⟨(joinS []).toArray⟩) ∧ Fr (fun _ => False) w w' := by
  obtain ⟨a, c, hlv⟩ := h.shape
  simp only [List.length_nil] at hlv
  subst hlv
  clear h
  go_enter Tryd.func8, Tryd.ntmps8
  go_wp2_with (fail)
  go_loopw [3, 9] (fun v i w' => v = .slice none 0 0 ∧ i = .int .i64 0 ∧ w' = w) (fun _ _ _ => 0)
  case atStart => exact ⟨rfl, rfl, rfl⟩
  case round =>
    obtain ⟨rfl, rfl, rfl⟩ := hrel
    go_wp2_with (fail)
    refine (Tryd.strings_Join_none _ _ _ _).mono ?_
    rintro e w2 ⟨rfl, rfl⟩
    go_wp2_with (fail)
    go_ret
    exact ⟨rfl, Fr.refl _ _⟩
set_option maxHeartbeats 1600000 in
theorem Join_some {w : World} {base : Nat} {lv : Value} {toks : List Tok} (h : TokRow w base lv toks) (hn : toks.length ≤ 100000) (hsz : ∀ t ∈ toks, t.text.size ≤ 100000) (hall : (joinS toks).length ≤ 140737488355328) (hpos : 0 < toks.length) :
    Calls Tryd.prog 8 #[lv] w fun e w' => e = .returned (.string ⟨(joinS toks).toArray⟩) ∧ Fr (fun _ => False) w w' := by
  obtain ⟨a, c, rfl⟩ := h.shape
  go_enter Tryd.func8, Tryd.ntmps8
  go_wp2_with (fail)
  go_loopw [3, 9] (fun v i w' => ∃ k : Nat, k ≤ toks.length ∧ i = .int .i64 k ∧ JoinInv w toks v k w') (fun _ i _ => toks.length - (intOf i).toNat)
  case atStart => exact ⟨0, Nat.zero_le _, rfl, World.ownsRow_nil _ _ _ _, Fr.refl _ _⟩
  case round =>
    obtain ⟨k, hk, rfl, own, F⟩ := hrel
    by_cases hlt : k < toks.length
    · obtain ⟨t, ht⟩ : ∃ t, toks[k]? = some t := ⟨_, List.getElem?_eq_getElem hlt⟩
      obtain ⟨lb, cap, na, nc, sa, sc, he, hcap, hlb, -, e0, e1, e2, e3, e4, e5, e6, e7, -, -⟩ := (h.keep F).tok ht
      have hts := hsz t (List.mem_of_getElem? ht)
      have HT := Lib.hid ht
      injection he with he1 he2 he3
      subst he1
      subst he3
      have hk1 : (k : Int) < (toks.length : Int) := by omega
      have hk0 : (0 : Int) ≤ (k : Int) := by omega
      obtain ⟨ii, hii, hz, hsz1, hby⟩ := info_parts Tryd.infoStr
      have HSZ := Lib.hid hsz
      have HALL := Lib.hid hall
      clear he2 ht hsz hall
      have hFs := F.size
      cases h3 : (t.kind == 3) with
      | true =>
        go_wp2_with (fail)
        refine (quote_c t.text hts).mono ?_
        rintro e w2 ⟨rfl, F2⟩
        have FX : Fr (fun _ => False) wr w2 := ((Fr.refl _ wr).alloc _).trans F2
        have ownX := FX.owns own (fun _ _ => id)
        have hXs := FX.size
        have hst : strOf t = ⟨(quoteL t.text.data.toList).toArray⟩ := by unfold strOf joinTxt; rw [if_pos (by simpa using h3)]
        have HST := Lib.hid hst
        clear hst e0 e1 e2 e3 e4 e5 e6 e7
        go_wp2_with (at_builtin; refine hold ?_)
        refine Hold.mk ?_
        refine wpList_append_own2 rfl (.tmp 20) (.tmp 22) 33 rfl w.heap.size 9 ii _ 1 16 Tryd.underlying33 hii hz hsz1 hby rfl (by omega) _ k _ rfl (ownX.alloc _) ⟨w2.heap.size, 0, none⟩ 1 1 (by omega) [.string ⟨(quoteL t.text.data.toList).toArray⟩] rfl rfl (cell_one_new _ _ _) (fun u hu => by simp at hu; subst hu; rfl) (by unfold maxLen; omega) (by omega) (Nat.le_trans (Nat.le_trans hFs hXs) (World.grownBy_alloc w2 _ none).size) ?_
        intro g' cap' w8 own8 hgr hsame
        go_wp2_with (fail)
        exact ⟨⟨k + 1, by omega, by go_num, JoinInv.next F own HT.out (FX.alloc _) own8 (by rw [HST.out]) hgr⟩, by simp [intOf]; omega⟩
      | false =>
        have hst : strOf t = t.text := by unfold strOf joinTxt; rw [if_neg (by simpa using h3)]
        have HST := Lib.hid hst
        clear hst
        go_wp2_with (at_builtin; refine hold ?_)
        refine Hold.mk ?_
        refine wpList_append_own2 rfl (.tmp 20) (.tmp 22) 33 rfl w.heap.size 9 ii _ 1 16 Tryd.underlying33 hii hz hsz1 hby rfl (by omega) _ k _ rfl ((own.alloc _).alloc _) ⟨wr.heap.size + 1, 0, none⟩ 1 1 (by omega) [.string t.text] rfl rfl (by simpa using cell_one_new (wr.alloc _) _ _) (fun u hu => by simp at hu; subst hu; rfl) (by unfold maxLen; omega) (by omega) (by simp; omega) ?_
        intro g' cap' w8 own8 hgr hsame
        go_wp2_with (fail)
        exact ⟨⟨k + 1, by omega, by go_num, JoinInv.next F own HT.out (((Fr.refl _ wr).alloc _).alloc _) own8 (by rw [HST.out]) hgr⟩, by simp [intOf]; omega⟩
    · obtain rfl : k = toks.length := by omega
      rw [List.take_length] at own
      have hz : decide ((toks.length : Int) < (toks.length : Int)) = false := by simp
      obtain ⟨sb, sc, rfl, hsb, hsc⟩ := own_form own (by omega)
      have hml : (toks.map strOf).length = toks.length := by simp
      have hjoin : (Lib.join ((toks.map strOf).map (·.data.toList)) (⟨#[32]⟩ : ByteArray).data.toList) = joinS toks := by
        unfold joinS
        rw [List.map_map]
        rfl
      have hJ := Tryd.strings_Join sb 0 sc (toks.map strOf) ⟨#[32]⟩ wr (fun j x hx => by
        have := own.cells (g := sb) rfl j (.string x) (by
          rw [List.getElem?_map] at hx ⊢
          cases hq : toks[j]? with
          | none => rw [hq] at hx; simp at hx
          | some q =>
            rw [hq] at hx
            simp at hx ⊢
            exact hx)
        rw [Addr.add_lit] at this
        exact this) (own.lt sb rfl).2 (by omega) (by omega) (by rw [hjoin]; exact hall)
      rw [hml, hjoin] at hJ
      have HJ := Lib.hid hJ
      clear hJ hjoin hall hml
      go_wp2_with (fail)
      refine HJ.out.mono ?_
      rintro e w2 ⟨rfl, hb⟩
      have F2 : Fr (fun _ => False) w w2 := F.trans (Fr.of_below hb)
      go_wp2_with (fail)
      go_ret
      exact ⟨rfl, F2⟩
theorem Join_c {w : World} {base : Nat} {lv : Value} {toks : List Tok} (h : TokRow w base lv toks) (hn : toks.length ≤ 100000) (hsz : ∀ t ∈ toks, t.text.size ≤ 100000) (hall : (joinS toks).length ≤ 140737488355328) :
    Calls Tryd.prog 8 #[lv] w fun e w' => e = .returned (.string ⟨(joinS toks).toArray⟩) ∧ Fr (fun _ => False) w w' := by
  cases toks with
  | nil => exact Join_nil h
  | cons t r => exact Join_some h hn hsz hall (by simp)
end Go.Proofs.YtnoplebjkbfedaaDoor
