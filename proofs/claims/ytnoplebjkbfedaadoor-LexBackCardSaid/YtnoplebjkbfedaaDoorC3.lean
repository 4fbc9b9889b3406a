/- The lexer's method numeral: the numbers. -/
import Derived.Test.YtnoplebjkbfedaaDoorC2
import Derived.Test.YtnoplebjkbfedaaDoorD1
namespace Go.Proofs.YtnoplebjkbfedaaDoor
open Go Go.RowKit
set_option linter.unusedSimpArgs false
set_option linter.unusedVariables false
set_option maxRecDepth 100000
def NumInv (B g : Nat) (s : ByteArray) (st : LxSt) (lv : Value) (i vb : Nat) (w1 w' : World) : Prop :=
  ∃ (j n : Nat) (T : Int) (N : List Int) (nv : Value), i ≤ j ∧ j ≤ s.size ∧ 2 * n ≤ j ∧ N.length = n ∧ 0 ≤ T ∧ T ≤ 200 ∧ IsLx w' B g s { st with at_ := (j : Int) } lv ∧
    w'.heap[vb]? = some (.cells #[.int .i64 T, nv, .slice none 0 0, .slice none 0 0] 36 (0, 0)) ∧ w'.ownsRow (vb + 1) 2 1 nv n (N.map (.int .i64)) ∧ Fr (fun k => k = g ∨ k = vb) w1 w' ∧
    ∃ f, s.size < f + j ∧ Hid (numsS (s.size + 1) s i 0 [] = numsS f s j T N)
theorem worthFin_t {t : Int} {minus p : Bool} {W R : List UInt8} {a b : Int} (h : worthFin t minus W R p = some (a, b)) : a = t := by
  unfold worthFin at h
  split at h
  · cases h
  · split at h
    · split at h
      · simp only [Option.some.injEq, Prod.mk.injEq] at h
        exact h.1.symm
      · cases h
    · cases h
theorem worthS_t {l : List UInt8} {a b : Int} (h : worthS l = some (a, b)) : a = 2 ∨ a = 4 ∨ a = 5 := by
  unfold worthS at h
  split at h
  · simp only [Option.some.injEq, Prod.mk.injEq] at h; omega
  · split at h
    · simp only [Option.some.injEq, Prod.mk.injEq] at h; omega
    · split at h
      · simp only [Option.some.injEq, Prod.mk.injEq] at h; omega
      · unfold worthCut at h
        split at h
        · split at h
          · cases h
          · have := worthFin_t h
            omega
        · have := worthFin_t h
          split at this <;> omega
theorem worthV_t {l : List UInt8} {a b : Int} (h : worthV l = (a, b, true)) : (a = 2 ∨ a = 4 ∨ a = 5) ∧ l ≠ [] := by
  unfold worthV at h
  split at h
  · rename_i a' b' hs
    simp only [Prod.mk.injEq] at h
    obtain ⟨rfl, rfl, -⟩ := h
    refine ⟨worthS_t hs, ?_⟩
    intro hl
    rw [hl] at hs
    exact absurd (hs.symm.trans (by decide : worthS [] = none)) (by simp)
  · simp at h
def numNext (f : Nat) (s : ByteArray) (j : Nat) (t : Int) (N : List Int) : Option Nat → LxEnd (Nat × Int × List Int)
  | none => .ok (j, t, N)
  | some k => numsS f s k t N
theorem numsS_step {f : Nat} {s : ByteArray} {j : Nat} {T t m : Int} {N : List Int} (h : worthV (subS s j (numLen s j)).data.toList = (t, m, true)) (hT : ¬(N ≠ [] ∧ t ≠ T)) :
    numsS (f + 1) s j T N = numNext f s (j + numLen s j) t (N ++ [m]) (moreS s (j + numLen s j)) := by
  rw [numsS]
  simp only [h]
  rw [if_neg (by decide), if_neg hT]
  cases moreS s (j + numLen s j) <;> rfl
set_option maxHeartbeats 3200000 in
theorem numeral_nums {w : World} {B g : Nat} {s : ByteArray} {st : LxSt} {lv : Value} (gl : Gl B w) (hx : IsLx w B g s st lv) (i : Nat) (hi : st.at_ = i) (hle : i ≤ s.size) (hs : s.size ≤ 65536) (hn : st.toks.length ≤ 1000000) (herr : st.err = 0)
    (hb : bitsB (subS s i (runN lnI s i)).data.toList = false) :
    Calls Tryd.prog 23 #[.pointer (some ⟨g, 0, none⟩)] w fun e w' => e = .returned (.tuple #[]) ∧ LxRes (numeralR s st i) B g s w' ∧ Fr (LxS g lv) w w' := by
  have hR : numeralR s st i = (match numsS (s.size + 1) s i 0 [] with | .ok (j, T, N) => .ok (litTok s st i j ⟨T, N, []⟩) | .error e => .error e) := by
    unfold numeralR
    rw [if_neg (by rw [hb]; decide)]
    rfl
  have HR := Lib.hid hR
  clear hR
  obtain ⟨c0, c1, c2, c3, c4, cf⟩ := hx.cells
  clear cf c2 c3 c4
  have hlt := hx.lt
  rw [hi] at c1
  have hrl := runN_le lnI s i hle
  have hsz := subS_size s i (runN lnI s i) hrl
  go_enter Tryd.func23, Tryd.ntmps23
  go_wp2_with (fail)
  refine (run_c _ _ tells_long c0 c1 (by omega) (by omega)).mono ?_
  rintro e w' ⟨rfl, n2, rfl⟩
  generalize subS s i (runN lnI s i) = tx at *
  generalize runN lnI s i = rn at *
  simp only [bitsB] at hb
  go_upto_region 3 with (go_at_call 33; refine (Tryd.strings_CutSuffix _ _ _ (by omega)).mono ?_; rintro e w' ⟨rfl, rfl⟩)
  go_cut [37, 4, 5, 23, 25, 26, 27] (fun v _ _ _ _ _ _ wx => v = .bool false ∧ Fr (fun _ => False) w wx)
  case first =>
    cases q1 : Lib.hasSuffix tx.data.toList [98] with
    | false =>
      go_wp2_with (fail)
      go_meet
      exact ⟨rfl, (Fr.refl _ _).drewN _⟩
    | true =>
      rw [q1] at hb
      cases q2 : (Lib.trimSuffix tx.data.toList [98]).isEmpty with
      | true =>
        go_wp2_with (fail)
        go_meet
        exact ⟨rfl, (Fr.refl _ _).drewN _⟩
      | false =>
        rw [q2] at hb
        have q3 : (Lib.trimS (Lib.trimSuffix tx.data.toList [98]) [48, 49]).isEmpty = false := by simpa using hb
        have hle1 := Lib.trimSuffix_le tx.data.toList [98]
        have hle2 : tx.data.toList.length = tx.size := rfl
        generalize Lib.trimSuffix tx.data.toList [98] = bl at *
        go_wp2_with (fail)
        refine (Tryd.strings_Trim_set _ _ _ ?_ (by decide) (ascii_of_all (by decide))).mono ?_
        · rw [Lib.size_eq]
          dsimp only
          omega
        rintro e w3 ⟨rfl, hw3⟩
        have F3 : Fr (fun _ => False) w w3 := ((Fr.of_below hw3 : Fr (fun _ => False) (w.drewN n2) w3).of_drewN)
        dsimp only
        go_wp2_with (fail)
        go_meet
        exact ⟨rfl, F3⟩
  case rest =>
    obtain ⟨rfl, F3⟩ := hcut
    clear hb c0 c1
    go_wp2_with (fail)
    generalize hw1 : World.alloc _ _ = w1
    have F1 : Fr (fun _ => False) w w1 := by rw [← hw1]; exact F3.alloc _
    have b1 : w1.heap[wc.heap.size]? = some (.cells #[.int .i64 0, .slice none 0 0, .slice none 0 0, .slice none 0 0] 36 (0, 0)) := by rw [← hw1]; exact heap_alloc_new wc _
    have hw1s : w1.heap.size = wc.heap.size + 1 := by rw [← hw1]; simp
    obtain ⟨vb, hvb⟩ : ∃ vb, vb = wc.heap.size := ⟨_, rfl⟩
    have hgv : w.heap.size ≤ vb := by rw [hvb]; exact F3.size
    rw [← hvb] at b1 hw1s ⊢
    clear hw1 hvb
    have hx1 := hx.keep F1 (fun _ _ h => h)
    have hst : st = { st with at_ := (i : Int) } := by rw [← hi]
    have HST := Lib.hid hst
    clear hst
    have hlv : ∀ k', lv.ownBlock = some k' → k' < w.heap.size := fun k' hk' => by
      obtain ⟨_, _, _, ts, _, hown, _⟩ := hx
      exact own_lt' hown k' hk'
    go_loopw [9] (fun _ w' => NumInv B g s st lv i vb w1 w') (fun _ w' => s.size + 1 - placeOf w' g)
    case atStart => exact ⟨i, 0, 0, [], _, Nat.le_refl _, hle, Nat.zero_le _, rfl, by omega, by omega, HST.out ▸ hx1, b1, World.ownsRow_nil _ _ _ _, Fr.refl _ _, s.size + 1, by omega, Lib.hid rfl⟩
    case round =>
      obtain ⟨j, n, T, N, nv, hij, hj, hnj, hNn, hT0, hT1, hxr, hvr, own, Fr1, f, hf, HS⟩ := hrel
      obtain ⟨na, nc, rfl⟩ := own_shape own
      obtain ⟨d0, d1, d2, d3, d4, -, f1, -⟩ := blk5 hxr.2.1
      dsimp only at d1
      go_wp2_with (fail)
      have glr : Gl B wr := (gl.keep F1 (fun _ h => h.elim)).keep Fr1 (fun k hk => hk.elim (fun h => by rw [h]; exact hx.1) (fun h => by rw [h]; exact Nat.le_trans gl.size hgv))
      refine (number_c hxr j rfl hj (by omega)).mono ?_
      rintro e w5 ⟨rfl, hx5, F5⟩
      have gl5 : Gl B w5 := glr.keep F5 (fun k hk => by rw [hk]; exact hx.1)
      have hnl : j + numLen s j ≤ s.size := by
        unfold numLen
        have hp : j + numPre s j ≤ s.size := by
          unfold numPre
          split
          · rename_i h45
            have := pkI_pos (s := s) (i := j) (by rw [h45]; decide)
            omega
          · omega
        have := runN_le lnI s (j + numPre s j) hp
        omega
      have hts := subS_size s j (numLen s j) hnl
      go_wp2_with (fail)
      refine (worth_c gl5 (subS s j (numLen s j)) (by omega)).mono ?_
      rintro e w6 ⟨rfl, F6⟩
      generalize hWV : worthV (subS s j (numLen s j)).data.toList = wv at *
      obtain ⟨t, m, ok⟩ := wv
      have HWV := Lib.hid hWV
      clear hWV
      have F56 : Fr (fun k => k = g) wr w6 := F5.trans (F6.mono (fun _ h => h.elim))
      have hx6 := hx5.keep F6 (fun _ _ h => h)
      have hvlt : vb < wr.heap.size := (Array.getElem?_eq_some_iff.1 hvr).1
      have hv6 : w6.heap[vb]? = some (.cells #[.int .i64 T, .slice na n nc, .slice none 0 0, .slice none 0 0] 36 (0, 0)) := (F56.block vb hvlt (by omega)).trans hvr
      have own6 := F56.owns own (fun k' hk' h => by have := (own.lt k' hk').1; omega)
      have Fw6 : Fr (fun k => k = g) w w6 := ((F1.mono (fun _ h => h.elim)).trans' Fr1 (fun k hk h => h.elim id (fun h2 => by omega))).trans F56
      obtain ⟨f', rfl⟩ : ∃ f', f = f' + 1 := ⟨f - 1, by omega⟩
      have hs2 := HS.out
      clear d0 d1 d2 d3 d4 f1
      obtain ⟨d0, d1, d2, d3, d4, -, f1, -⟩ := blk5 hx6.2.1
      obtain ⟨q0, q1, q2, q3, k0, k1, -⟩ := blk4 hv6
      dsimp only at d1 ⊢
      cases ok with
      | false =>
        have hR : numeralR s st i = .error (141, (j : Int)) := by
          rw [HR.out, hs2, numsS]
          simp only [HWV.out]
          rfl
        have HE := Lib.hid hR
        clear hR hs2
        go_wp2_with (fail)
        refine (fail_c (lv := lv) (st := { st with at_ := (j : Int) }) (s := s) (B := B) (by exact hx6) 141 j).mono ?_
        rintro e w7 ⟨rfl, hx7, F7⟩
        go_wp2_with (fail)
        refine bodyPost_ret (results_none rfl _ _ _) rfl ?_
        refine ⟨rfl, ?_, (Fw6.trans F7).mono (fun _ h => .inl h)⟩
        rw [HE.out]
        exact ⟨_, lv, hx7, by simp [failSt, herr], by simp [failSt, herr]⟩
      | true =>
        by_cases hmix : N ≠ [] ∧ t ≠ T
        · have hR : numeralR s st i = .error (143, (j : Int)) := by
            rw [HR.out, hs2, numsS]
            simp only [HWV.out]
            rw [if_neg (by decide), if_pos hmix]
          have HE := Lib.hid hR
          have hn0 : (0 : Int) < (n : Int) := by
            have : N.length ≠ 0 := fun h => hmix.1 (List.eq_nil_of_length_eq_zero h)
            omega
          have htT : (t != T) = true := by simpa using hmix.2
          clear hR hs2 hmix
          go_wp2_with (fail)
          refine (fail_c (lv := lv) (st := { st with at_ := (j : Int) }) (s := s) (B := B) (by exact hx6) 143 j).mono ?_
          rintro e w7 ⟨rfl, hx7, F7⟩
          go_wp2_with (fail)
          refine bodyPost_ret (results_none rfl _ _ _) rfl ?_
          refine ⟨rfl, ?_, (Fw6.trans F7).mono (fun _ h => .inl h)⟩
          rw [HE.out]
          exact ⟨_, lv, hx7, by simp [failSt, herr], by simp [failSt, herr]⟩
        · have hn65 : decide ((65536 : Int) ≤ (n : Int)) = false := by simp; omega
          have y1 : IntKind.i64.wrap ((j : Int) + ((subS s j (numLen s j)).size : Int)) = (j : Int) + (numLen s j : Int) := by
            rw [hts]
            exact IntWalk.i64_in _ (by omega)
          go_upto_block 4 with (fail)
          go_cut [11] (fun v wx => v = .int .i64 t ∧ wx = w6)
          case first =>
            by_cases hn0 : n = 0
            · have hn0' : decide ((0 : Int) < (n : Int)) = false := by simp; omega
              go_wp2_with (fail)
              go_meet
              exact ⟨rfl, rfl⟩
            · have hn0' : decide ((0 : Int) < (n : Int)) = true := by simp; omega
              have htT : (t != T) = false := by
                have : t = T := Classical.byContradiction fun h => hmix ⟨fun h2 => hn0 (by rw [← hNn, h2]; rfl), h⟩
                simpa using this
              go_wp2_with (fail)
              go_meet
              exact ⟨rfl, rfl⟩
          case rest =>
            obtain ⟨rfl, rfl⟩ := hcut
            go_upto_region 26 with (fail)
            generalize hwy : World.setCell (World.setCell _ ⟨g, 1, none⟩ _) ⟨vb, 0, none⟩ _ = wy
            have Fy1 : Fr (fun k => k = g) wc (World.setCell wc ⟨g, 1, none⟩ (.int .i64 ((j : Int) + (numLen s j : Int)))) := (Fr.refl (fun k => k = g) wc).set1 1 _
            have gy1 := set_place (m := (j : Int) + (numLen s j : Int)) hx6.2.1
            have vy1 := (Fy1.block vb (Array.getElem?_eq_some_iff.1 hv6).1 (by omega)).trans hv6
            have Fy2 : Fr (fun k => k = vb) (World.setCell wc ⟨g, 1, none⟩ (.int .i64 ((j : Int) + (numLen s j : Int)))) wy := by rw [← hwy]; exact (Fr.refl (fun k => k = vb) _).set1 0 _
            have gy : wy.heap[g]? = some (.cells #[.string s, .int .i64 ((j + numLen s j : Nat) : Int), lv, .int .i64 st.err, .int .i64 st.bad] 44 (0, 0)) := by
              refine (Fy2.block g (Array.getElem?_eq_some_iff.1 gy1).1 (by omega)).trans ?_
              rw [show ((j + numLen s j : Nat) : Int) = (j : Int) + (numLen s j : Int) by omega]
              exact gy1
            have vy : wy.heap[vb]? = some (.cells #[.int .i64 t, .slice na n nc, .slice none 0 0, .slice none 0 0] 36 (0, 0)) := by
              rw [← hwy, heap_cell5 vy1 0 _]
              rfl
            have Fy : Fr (fun k => k = g ∨ k = vb) wc wy := (Fy1.mono (fun _ h => .inl h)).trans (Fy2.mono (fun _ h => .inr h))
            clear hwy
            have owny := (Fy.owns own6 (fun k' hk' h => by have := (own6.lt k' hk').1; omega))
            obtain ⟨p0, p1, p2, p3, -⟩ := blk4 vy
            obtain ⟨ii, hii, hz, hsz8, hby⟩ := info_parts Tryd.infoI64
            have hvs : vb + 1 ≤ wy.heap.size := (Array.getElem?_eq_some_iff.1 vy).1
            clear d0 d1 d2 d3 d4 f1 q0 q1 q2 q3 k0 k1
            go_wp2_with (at_builtin; refine hold ?_)
            refine Hold.mk ?_
            refine wpList_append_own2 rfl (.tmp 130) (.tmp 132) 32 rfl (vb + 1) 2 ii _ 1 8 Tryd.underlying32 hii hz hsz8 hby rfl (by omega) _ n _ rfl (owny.alloc _) ⟨wy.heap.size, 0, none⟩ 1 1 (by omega) [.int .i64 m] rfl rfl (cell_one_new _ _ _) (fun u hu => by simp at hu; subst hu; rfl) (by unfold maxLen; omega) (by omega) (Nat.le_trans hvs (World.grownBy_alloc wy _ none).size) ?_
            intro g' cap' w8 own8 hgr hsame
            have hq8 : N.map (Value.int .i64) ++ [Value.int .i64 m] = (N ++ [m]).map (Value.int .i64) := by simp
            rw [hq8] at own8
            have hne : ∀ k', (Value.slice na n nc).ownBlock = some k' → vb + 1 ≤ k' := fun k' hk' => (owny.lt k' hk').1
            have hv8 : w8.heap[vb]? = some (.cells #[.int .i64 t, .slice na n nc, .slice none 0 0, .slice none 0 0] 36 (0, 0)) :=
              (hgr.block vb (by have := (World.grownBy_alloc wy (.cells #[Value.int .i64 m] 2) none).size; omega) (fun h => by have := hne vb h.symm; omega)).trans ((heap_alloc_old wy _ (by omega)).trans vy)
            have g8 : w8.heap[g]? = some (.cells #[.string s, .int .i64 ((j + numLen s j : Nat) : Int), lv, .int .i64 st.err, .int .i64 st.bad] 44 (0, 0)) :=
              (hgr.block g (by have := (World.grownBy_alloc wy (.cells #[Value.int .i64 m] 2) none).size; omega) (fun h => by have := hne g h.symm; omega)).trans ((heap_alloc_old wy _ (by omega)).trans gy)
            obtain ⟨r0, r1, r2, r3, k0, k1, k2, k3⟩ := blk4 hv8
            go_wp2_with (fail)
            have Fg : Fr (fun k => k = g ∨ k = vb ∨ some k = (Value.slice na n nc).ownBlock) wr w8 :=
              (((F56.mono (fun _ h => .inl h)).trans (Fy.mono (fun _ h => h.elim .inl (fun h => .inr (.inl h))))).alloc _).grown hgr (fun k' hk' _ => .inr (.inr hk'.symm))
            have FS : Fr (fun k => k = vb) w8 (w8.setCell ⟨vb, 1, none⟩ (.slice (some ⟨g', 0, none⟩) (n + 1) cap')) := (Fr.refl (fun k => k = vb) w8).set1 1 _
            have F8 : Fr (fun k => k = g ∨ k = vb) w1 (w8.setCell ⟨vb, 1, none⟩ (.slice (some ⟨g', 0, none⟩) (n + 1) cap')) := by
              refine (Fr1.trans' Fg (fun k' hk' h => ?_)).trans (FS.mono (fun _ h => .inr h))
              rcases h with h | h | h
              · exact .inl h
              · exact .inr h
              · have := hne k' h.symm
                omega
            have gE := (FS.block g (Array.getElem?_eq_some_iff.1 g8).1 (by omega)).trans g8
            have vE := heap_cell5 hv8 1 (.slice (some ⟨g', 0, none⟩) (n + 1) cap')
            have ownE := FS.owns own8 (fun k' hk' h => by have := (own8.lt k' hk').1; omega)
            have FE : Fr (fun k => k = g) w (w8.setCell ⟨vb, 1, none⟩ (.slice (some ⟨g', 0, none⟩) (n + 1) cap')) := (F1.mono (fun _ h => h.elim)).trans' F8 (fun k' hk' h => h.elim id (fun h2 => by omega))
            clear r0 r1 r2 r3 k0 k1 k2 k3 p0 p1 p2 p3
            generalize w8.setCell ⟨vb, 1, none⟩ (.slice (some ⟨g', 0, none⟩) (n + 1) cap') = wE at *
            have hxE : IsLx wE B g s { st with at_ := ((j + numLen s j : Nat) : Int) } lv := hx.upd gE rfl FE
            have hmore := more_c hxE (j + numLen s j) rfl hnl (by omega)
            have hwt := worthV_t HWV.out
            have hnl0 : 0 < numLen s j := by
              rcases Nat.eq_zero_or_pos (numLen s j) with h0 | h0
              · refine absurd (List.eq_nil_of_length_eq_zero ?_) hwt.2
                rw [h0] at hts ⊢
                exact hts
              · exact h0
            have hTt : ¬(N ≠ [] ∧ t ≠ T) := hmix
            obtain ⟨mo, hmo⟩ : ∃ mo, mo = moreS s (j + numLen s j) := ⟨_, rfl⟩
            rw [← hmo] at hmore
            have hnum := numsS_step (f := f') HWV.out hTt
            rw [← hmo] at hnum
            have HNUM := Lib.hid (hs2.trans hnum)
            have HMO := Lib.hid hmo
            have ht3 := hwt.1
            clear hmo hnum hs2 hwt hmix hTt y1 hn65 hq8
            cases mo with
            | none =>
              have hR : numeralR s st i = .ok (litTok s st i (j + numLen s j) ⟨t, N ++ [m], []⟩) := by rw [HR.out, HNUM.out]; rfl
              have HE := Lib.hid hR
              clear hR
              refine hmore.mono ?_
              rintro e w9 ⟨rfl, hx9, F9⟩
              have hx9' : IsLx w9 B g s { st with at_ := ((j + numLen s j : Nat) : Int) } lv := hx9
              have own9 := F9.owns ownE (fun k' hk' h => by have := (ownE.lt k' hk').1; omega)
              have v9 := (F9.block vb (Array.getElem?_eq_some_iff.1 vE).1 (by omega)).trans vE
              obtain ⟨q0, q1, q2, q3, -⟩ := blk4 v9
              have hv : VCells w9 (LxF w9 g lv) ⟨t, N ++ [m], []⟩ [.int .i64 t, .slice (some ⟨g', 0, none⟩) (n + 1) cap', .slice none 0 0, .slice none 0 0] :=
                ⟨_, _, rfl, Rd1.of_own (by rw [show (N ++ [m]).length = n + 1 by simp [hNn]]; exact own9) (fun k' hk' => ⟨(own9.lt k' hk').2, by have := (own9.lt k' hk').1; omega, fun h => by have := (own9.lt k' hk').1; have := hlv k' h.symm; omega⟩), Rd1.nil⟩
              go_wp2_with (fail)
              refine (value_c (v := ⟨t, N ++ [m], []⟩) hx9' i (j + numLen s j) rfl (by omega) hnl (by omega) _ hv hn (by show (0 : Int) ≤ t; omega) (by show t ≤ 200; omega) (by simp; omega) (by simp)).mono ?_
              rintro e w10 ⟨rfl, lv', hx10, F10⟩
              go_wp2_with (fail)
              go_end0
              refine ⟨rfl, ?_, ((FE.trans F9).mono (fun _ h => .inl h)).trans F10⟩
              rw [HE.out]
              exact ⟨lv', hx10⟩
            | some kk =>
              obtain ⟨hkk, hdig⟩ := moreS_spec HMO.out.symm
              have hkk2 := (numLen_pos hdig).2
              clear hdig
              refine hmore.mono ?_
              rintro e w9 ⟨rfl, hx9, F9⟩
              have hx9' : IsLx w9 B g s { st with at_ := ((kk : Nat) : Int) } lv := hx9
              have own9 := F9.owns ownE (fun k' hk' h => by have := (ownE.lt k' hk').1; omega)
              have v9 := (F9.block vb (Array.getElem?_eq_some_iff.1 vE).1 (by omega)).trans vE
              have HF9 := F8.trans (F9.mono (fun _ h => .inl h))
              obtain ⟨-, m1, -⟩ := blk5 hx9'.2.1
              obtain ⟨-, m2, -⟩ := blk5 hxr.2.1
              go_wp2_with (fail)
              refine ⟨⟨kk, n + 1, t, N ++ [m], _, by omega, by omega, by omega, by simp [hNn], by omega, by omega, hx9', v9, own9, HF9, f', by omega, Lib.hid HNUM.out⟩, ?_⟩
              unfold placeOf
              rw [m1, m2]
              simp only []
              omega
end Go.Proofs.YtnoplebjkbfedaaDoor
