/- The lexer's method numeral: the bools. -/
import Derived.Test.YtnoplebjkbfedaaDoorC1
import Derived.Test.YtnoplebjkbfedaaDoorA6
namespace Go.Proofs.YtnoplebjkbfedaaDoor
open Go Go.RowKit
set_option linter.unusedSimpArgs false
set_option linter.unusedVariables false
set_option maxRecDepth 100000
theorem Tryd.infoI64 : (Tryd.prog.info? 2).map (fun i => (i.zero, i.size, i.bytes)) = some (some (.int .i64 0), 1, 8) := by kernel_rfl
theorem dropWhile_nil {p : UInt8 → Bool} : ∀ {l : List UInt8}, l.dropWhile p = [] → ∀ c ∈ l, p c = true
  | [], _, c, hc => by cases hc
  | a :: l, h, c, hc => by
    cases ha : p a with
    | false => simp [List.dropWhile_cons, ha] at h
    | true =>
      rw [List.dropWhile_cons, if_pos ha] at h
      rcases List.mem_cons.1 hc with rfl | hc
      · exact ha
      · exact dropWhile_nil h c hc
theorem dropWhile_head {p : UInt8 → Bool} : ∀ {l : List UInt8} {a : UInt8} {r : List UInt8}, l.dropWhile p = a :: r → p a = false
  | [], _, _, h => by cases h
  | b :: l, a, r, h => by
    cases hb : p b with
    | false =>
      rw [List.dropWhile_cons, if_neg (by simp [hb])] at h
      injection h with h1 _
      rw [← h1]
      exact hb
    | true =>
      rw [List.dropWhile_cons, if_pos hb] at h
      exact dropWhile_head h
theorem trimS_nil {l cs : List UInt8} (h : (Lib.trimS l cs).isEmpty = true) : ∀ c ∈ l, cs.contains c = true := by
  have h0 : Lib.trimS l cs = [] := by simpa using h
  unfold Lib.trimS Lib.trimLeftS Lib.trimRightS at h0
  have h1 := dropWhile_nil h0
  have h2 : l.reverse.dropWhile (cs.contains ·) = [] := by
    cases hr : l.reverse.dropWhile (cs.contains ·) with
    | nil => rfl
    | cons a r =>
      have h3 := dropWhile_head hr
      have h4 := h1 a (by rw [hr]; simp)
      rw [h3] at h4
      cases h4
  intro c hc
  exact dropWhile_nil h2 c (by simpa using hc)
def BitInv (B g : Nat) (s : ByteArray) (st : LxSt) (lv : Value) (vb : Nat) (bl : List UInt8) (w1 w' : World) (v : Value) : Prop :=
  ∃ (k : Nat) (nv : Value), k ≤ bl.length ∧ v = .int .i64 k ∧ w'.heap[vb]? = some (.cells #[.int .i64 1, nv, .slice none 0 0, .slice none 0 0] 36 (0, 0)) ∧
    w'.ownsRow (vb + 1) 2 1 nv k (((bl.take k).map (fun c => (c.toNat : Int) - 48)).map (.int .i64)) ∧ Fr (fun k => k = vb) w1 w'
set_option maxHeartbeats 3200000 in
theorem numeral_bits {w : World} {B g : Nat} {s : ByteArray} {st : LxSt} {lv : Value} (gl : Gl B w) (hx : IsLx w B g s st lv) (i : Nat) (hi : st.at_ = i) (hle : i ≤ s.size) (hs : s.size ≤ 65536) (hn : st.toks.length ≤ 1000000)
    (hb : bitsB (subS s i (runN lnI s i)).data.toList = true) :
    Calls Tryd.prog 23 #[.pointer (some ⟨g, 0, none⟩)] w fun e w' => e = .returned (.tuple #[]) ∧ LxRes (numeralR s st i) B g s w' ∧ Fr (LxS g lv) w w' := by
  have hR : numeralR s st i = .ok (litTok s st i (i + runN lnI s i) ⟨1, (bitsOf s i).map (fun c => (c.toNat : Int) - 48), []⟩) := by unfold numeralR; rw [if_pos hb]
  have HR := Lib.hid hR
  clear hR
  obtain ⟨c0, c1, c2, c3, c4, cf⟩ := hx.cells
  clear cf c2 c3 c4
  have hlt := hx.lt
  rw [hi] at c1
  have hrl := runN_le lnI s i hle
  have hsz := subS_size s i (runN lnI s i) hrl
  go_enter Tryd.func23, Tryd.ntmps23
  go_wp2_with (fail)
  refine (run_c _ _ tells_long c0 c1 (by omega) (by omega)).mono ?_
  rintro e w' ⟨rfl, n2, rfl⟩
  obtain ⟨bl, hbl⟩ : ∃ bl, bl = bitsOf s i := ⟨_, rfl⟩
  rw [← hbl] at HR
  have hbo : bl = Lib.trimSuffix (subS s i (runN lnI s i)).data.toList [98] := hbl
  clear hbl
  generalize subS s i (runN lnI s i) = tx at *
  generalize runN lnI s i = rn at *
  simp only [bitsB, Bool.and_eq_true, Bool.not_eq_true'] at hb
  obtain ⟨q1, q2, q3⟩ := hb
  rw [← hbo] at q2 q3
  have hbl : bl.length ≤ 65536 := by
    have h1 := Lib.trimSuffix_le tx.data.toList [98]
    rw [← hbo, ← Lib.size_eq] at h1
    omega
  have HBO := Lib.hid hbo
  clear hbo
  go_wp2_with (go_at_call 33; refine (Tryd.strings_CutSuffix _ _ _ (by omega)).mono ?_; rintro e w' ⟨rfl, rfl⟩; simp only [← HBO.out, q1])
  refine (Tryd.strings_Trim_set _ _ _ ?_ (by decide) (ascii_of_all (by decide))).mono ?_
  · rw [Lib.size_eq]
    dsimp only
    omega
  rintro e w3 ⟨rfl, hw3⟩
  have F3 : Fr (fun _ => False) w w3 := ((Fr.of_below hw3 : Fr (fun _ => False) (w.drewN n2) w3).of_drewN)
  clear hw3 c0 c1
  dsimp only
  go_wp2_with (fail)
  generalize hw1 : w3.alloc _ = w1
  have F1 : Fr (fun _ => False) w w1 := by rw [← hw1]; exact F3.alloc _
  have b1 : w1.heap[w3.heap.size]? = some (.cells #[.int .i64 1, .slice none 0 0, .slice none 0 0, .slice none 0 0] 36 (0, 0)) := by rw [← hw1]; exact heap_alloc_new w3 _
  have hw1s : w1.heap.size = w3.heap.size + 1 := by rw [← hw1]; simp
  obtain ⟨vb, hvb⟩ : ∃ vb, vb = w3.heap.size := ⟨_, rfl⟩
  have hgv : w.heap.size ≤ vb := by rw [hvb]; exact F3.size
  rw [← hvb] at b1 hw1s ⊢
  clear hw1 hvb
  have hbit : ∀ (k : Nat) (h : k < bl.length), 48 ≤ (bl[k]'h).toNat ∧ (bl[k]'h).toNat ≤ 49 := by
    intro k h
    have := trimS_nil q3 (bl[k]'h) (List.getElem_mem h)
    simp at this
    rcases this with h | h <;> rw [h] <;> decide
  go_loopw [41] (fun v w' => BitInv B g s st lv vb bl w1 w' v) (fun v _ => bl.length - (intOf v).toNat)
  case atStart => exact ⟨0, _, Nat.zero_le _, rfl, b1, World.ownsRow_nil _ _ _ _, Fr.refl _ _⟩
  case round =>
    obtain ⟨k, nv, hk, rfl, hvr, own, Fk⟩ := hrel
    obtain ⟨na, nc, rfl⟩ := own_shape own
    obtain ⟨q4, q5, q6, q7, -, k1, -⟩ := blk4 hvr
    obtain ⟨ii, hii, hz, hsz8, hby⟩ := info_parts Tryd.infoI64
    by_cases hkn : k < bl.length
    · have hkb := hbit k hkn
      have hmax : decide ((65536 : Int) ≤ (k : Int)) = false := by simp; omega
      have hvs : vb + 1 ≤ wr.heap.size := by have := (Array.getElem?_eq_some_iff.1 hvr).1; omega
      have hk64 : (k : Int) < (bl.length : Int) := by omega
      have y3 : IntKind.u8.wrap ((((bl[k]'hkn).toNat : Nat) : Int) - 48) = (((bl[k]'hkn).toNat : Nat) : Int) - 48 := by rw [IntKind.wrap_u8]; omega
      have y4 : IntKind.i64.wrap ((((bl[k]'hkn).toNat : Nat) : Int) - 48) = (((bl[k]'hkn).toNat : Nat) : Int) - 48 := IntWalk.i64_in _ (by omega)
      have hkB : k < (⟨bl.toArray⟩ : ByteArray).size := by show k < bl.toArray.size; simpa using hkn
      have hcb : ((⟨bl.toArray⟩ : ByteArray)[k]'hkB) = bl[k]'hkn := rfl
      have y5 : wrap64 ((((((⟨bl.toArray⟩ : ByteArray)[k]'hkB).toNat : Nat) : Int) - 48) % 256) = (((bl[k]'hkn).toNat : Nat) : Int) - 48 := by
        rw [hcb, show ((((bl[k]'hkn).toNat : Nat) : Int) - 48) % 256 = (((bl[k]'hkn).toNat : Nat) : Int) - 48 by omega]
        rw [IntKind.wrap_i64] at y4
        unfold wrap64
        omega
      clear hcb
      have hx8 : ∀ cs : Array Value, (wr.alloc (.cells cs 2)).cell? ⟨vb, 1, none⟩ = some (.slice na k nc) := fun cs => (World.grownBy_alloc wr _ none).cell q5 (by simp)
      go_wp2_with (fail)
      refine wp_region_mix (fun w' => w'.cell? ⟨vb, 1, none⟩ = some (.slice na k nc)) 8 [(.p, 0), (.h [8, 1], 1), (.p, 2), (.p, 3), (.p, 4), (.p, 5), (.w true, 6), (.w true, 7), (.w false, 8), (.p, 9), (.w false, 10)] (by kernel_rfl) (by kernel_rfl) rfl (by kernel_rfl) ?_ ?_
      · go_simp
      repeat (refine wpMix_look rfl rfl (fun K hK => ?_); go_simp; refine hK _ ?_; clear hK K)
      refine wpMix_held rfl rfl (.slice na k nc) (fun w' hw' => ?_) (fun K hK => ?_)
      · go_simp
      go_simp; refine hK _ ?_; clear hK K
      repeat (refine wpMix_look rfl rfl (fun K hK => ?_); go_simp; refine hK _ ?_; clear hK K)
      refine wpMix_loud rfl (fun K hK => ?_)
      go_wp2
      refine thenN_normal (hK _ _ (fun _ => by go_simp) ?_)
      clear hK K
      refine wpMix_loud rfl (fun K hK => ?_)
      go_wp2
      refine thenN_normal (hK _ _ (fun _ => hx8 _) ?_)
      clear hK K
      refine wpMix_loud rfl (fun K hK => ?_)
      refine wpList_append_own2 rfl (.tmp 52) (.tmp 58) 32 rfl (vb + 1) 2 ii _ 1 8 Tryd.underlying32 hii hz hsz8 hby rfl (by omega) _ k _ rfl (own.alloc _) ⟨wr.heap.size, 0, none⟩ 1 1 (by omega) [.int .i64 ((((bl[k]'hkn).toNat : Nat) : Int) - 48)] rfl rfl (fun j u hu => by rw [Addr.add_lit]; first | simpa using hu | (simp; exact hu)) (fun u hu => by simp at hu; subst hu; rfl) (by unfold maxLen; omega) (by omega) (Nat.le_trans hvs (World.grownBy_alloc wr _ none).size) ?_
      intro g' cap' w8 own8 hgr hsame
      have htk : ((bl.take k).map (fun c => (c.toNat : Int) - 48)).map (Value.int .i64) ++ [Value.int .i64 ((((bl[k]'hkn).toNat : Nat) : Int) - 48)] = ((bl.take (k + 1)).map (fun c => (c.toNat : Int) - 48)).map (Value.int .i64) := by
        rw [List.take_succ_eq_append_getElem hkn, List.map_append, List.map_append]
        rfl
      rw [htk] at own8
      have hne : ∀ k', (Value.slice na k nc).ownBlock = some k' → vb + 1 ≤ k' := fun k' hk' => (own.lt k' hk').1
      refine wpList_nil (thenN_normal (hK _ _ (fun h => by cases h) ?_))
      clear hK K
      repeat (refine wpMix_look rfl rfl (fun K hK => ?_); go_simp; refine hK _ ?_; clear hK K)
      refine wpMix_loud rfl (fun K hK => ?_)
      have hv8 : w8.heap[vb]? = some (.cells #[.int .i64 1, .slice na k nc, .slice none 0 0, .slice none 0 0] 36 (0, 0)) :=
        (hgr.block vb (by have := (World.grownBy_alloc wr (.cells #[Value.int .i64 ((((bl[k]'hkn).toNat : Nat) : Int) - 48)] 2) none).size; show vb < (wr.alloc _).heap.size; omega) (fun h => by have := hne vb h.symm; omega)).trans ((heap_alloc_old wr _ (by omega)).trans hvr)
      obtain ⟨r0, r1, r2, r3, -, k1, -⟩ := blk4 hv8
      go_wp2
      refine thenN_normal (hK _ _ (fun h => by cases h) (wpMix_nil ?_))
      clear hK K
      go_wp2_with (fail)
      have Fg : Fr (fun k' => k' = vb ∨ some k' = (Value.slice na k nc).ownBlock) wr w8 := (((Fr.refl _ _).alloc _).drew).grown hgr (fun k' hk' _ => .inr hk'.symm)
      have FS : Fr (fun k' => k' = vb) w8 (w8.setCell ⟨vb, 1, none⟩ (.slice (some ⟨g', 0, none⟩) (k + 1) cap')) := (Fr.refl (fun k' => k' = vb) w8).set1 1 _
      refine ⟨⟨k + 1, _, by omega, by go_num, heap_cell5 hv8 1 _, FS.owns own8 (fun k' hk' h => by have := (own8.lt k' hk').1; omega), (Fk.trans' Fg (fun k' hk' h => ?_)).trans FS⟩, by simp [intOf]; omega⟩
      rcases h with h | h
      · exact h
      · have := hne k' h.symm
        omega
    · obtain rfl : k = bl.length := by omega
      have FR : Fr (fun _ => False) w wr := F1.trans' Fk (fun k' hk' h => by omega)
      have hxr := hx.keep FR (fun _ _ h => h)
      obtain ⟨c0, c1, -, -, -, -, f1, -⟩ := blk5 hxr.2.1
      rw [hi] at c1
      have y1 : IntKind.i64.wrap ((i : Int) + (rn : Int)) = (i : Int) + (rn : Int) := IntWalk.i64_in _ (by omega)
      rw [List.take_length] at own
      go_wp2_with (fail)
      generalize hwa : World.setCell wr ⟨g, 1, none⟩ _ = wa
      have Fa : Fr (fun k => k = g) wr wa := by rw [← hwa]; exact (Fr.refl (fun k => k = g) wr).set1 1 _
      have ga : wa.heap[g]? = some (.cells #[.string s, .int .i64 ((i + rn : Nat) : Int), lv, .int .i64 st.err, .int .i64 st.bad] 44 (0, 0)) := by
        rw [← hwa]
        first | exact set_place hxr.2.1 | (rw [show ((i + rn : Nat) : Int) = (i : Int) + (rn : Int) by omega]; exact set_place hxr.2.1)
      clear hwa
      have Fwa : Fr (fun k => k = g) w wa := (FR.mono (fun _ h => h.elim)).trans Fa
      have hxa : IsLx wa B g s { st with at_ := ((i + rn : Nat) : Int) } lv := hx.place _ Fwa ga
      have owna := Fa.owns own (fun k' hk' h => by have := (own.lt k' hk').1; omega)
      have hlv : ∀ k', lv.ownBlock = some k' → k' < w.heap.size := fun k' hk' => by
        obtain ⟨_, _, _, ts, _, hown, _⟩ := hx
        exact own_lt' hown k' hk'
      have hv : VCells wa (LxF wa g lv) ⟨1, bl.map (fun c => (c.toNat : Int) - 48), []⟩ [.int .i64 1, .slice na bl.length nc, .slice none 0 0, .slice none 0 0] :=
        ⟨_, _, rfl, Rd1.of_own (by rw [List.length_map]; exact owna) (fun k' hk' => ⟨(owna.lt k' hk').2, by have := (owna.lt k' hk').1; omega, fun h => by have := (owna.lt k' hk').1; have := hlv k' h.symm; omega⟩), Rd1.nil⟩
      refine (value_c (v := ⟨1, bl.map (fun c => (c.toNat : Int) - 48), []⟩) hxa i (i + rn) rfl (by omega) hrl (by omega) _ hv hn (by show (0 : Int) ≤ 1; omega) (by show (1 : Int) ≤ 200; omega) (by simp; omega) (by simp)).mono ?_
      rintro e w4 ⟨rfl, lv', hx4, F4⟩
      go_wp2_with (fail)
      refine bodyPost_ret (results_none rfl _ _ _) rfl ?_
      refine ⟨rfl, ?_, (Fwa.mono (fun _ h => .inl h)).trans F4⟩
      rw [HR.out]
      exact ⟨lv', hx4⟩
end Go.Proofs.YtnoplebjkbfedaaDoor
