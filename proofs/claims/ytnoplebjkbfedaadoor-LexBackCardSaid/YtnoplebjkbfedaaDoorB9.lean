/- The lexer's method symbols: the walk. -/
import Derived.Test.YtnoplebjkbfedaaDoorB8
import Derived.Test.YtnoplebjkbfedaaDoorB6
namespace Go.Proofs.YtnoplebjkbfedaaDoor
open Go Go.RowKit
set_option linter.unusedSimpArgs false
set_option linter.unusedVariables false
set_option maxRecDepth 100000
theorem symsS_tick {f : Nat} {s : ByteArray} {j : Nat} {S : List ByteArray} (h : pkI s j = 96) : symsS (f + 1) s j S = if 65536 ≤ S.length then .error (6, (j : Int))
      else match symRaw s j with
        | .error e => .error e
        | .ok (b, n) => match symChk b j with
          | some e => .error e
          | none => symsS f s (j + 1 + n) (S ++ [b]) := by
  rw [symsS, if_pos h]
  rfl
theorem own_shape {w : World} {base : Nat} {e : TypeId} {size n : Nat} {v : Value} {xs : List Value} (h : w.ownsRow base e size v n xs) : ∃ a c, v = .slice a n c := by
  rcases h.2 with ⟨rfl, rfl⟩ | ⟨g, cap, cur, rfl, _⟩ <;> exact ⟨_, _, rfl⟩
/-- The loop's relation. -/
def SymInv (B g : Nat) (s : ByteArray) (st : LxSt) (lv : Value) (i vb : Nat) (w1 w' : World) : Prop :=
  ∃ (j n : Nat) (e b : Int) (S : List ByteArray) (sv : Value), i ≤ j ∧ j ≤ s.size ∧ n ≤ j ∧ S.length = n ∧ IsLx w' B g s { st with at_ := (j : Int), err := e, bad := b } lv ∧
    w'.heap[vb]? = some (.cells #[.int .i64 3, .slice none 0 0, sv, .slice none 0 0] 36 (0, 0)) ∧ w'.ownsRow (vb + 1) 9 1 sv n (S.map .string) ∧ Fr (fun k => k = g ∨ k = vb) w1 w' ∧
    ((e = 0 ∧ b = st.bad ∧ ∃ f, s.size < f + j ∧ symsS (s.size + 1) s i [] = symsS f s j S) ∨ (e ≠ 0 ∧ symsS (s.size + 1) s i [] = .error (e, b)))

set_option maxHeartbeats 3200000 in
theorem symbols_c {w : World} {B g : Nat} {s : ByteArray} {st : LxSt} {lv : Value} (gl : Gl B w) (hx : IsLx w B g s st lv) (i : Nat) (hi : st.at_ = i) (hle : i ≤ s.size) (hs : s.size ≤ 70000) (hn : st.toks.length ≤ 1000000) (herr : st.err = 0) :
    Calls Tryd.prog 25 #[.pointer (some ⟨g, 0, none⟩)] w fun e w' => e = .returned (.tuple #[]) ∧ LxRes (symsR s st i) B g s w' ∧ Fr (LxS g lv) w w' := by
  obtain ⟨c0, c1, c2, c3, c4, cf⟩ := hx.cells
  clear cf c2 c3 c4
  have hlt := hx.lt
  rw [hi] at c1
  go_enter Tryd.func25, Tryd.ntmps25
  go_wp2_with (fail)
  generalize hw1 : w.alloc _ = w1
  have F1 : Fr (fun _ => False) w w1 := by rw [← hw1]; exact (Fr.refl _ _).alloc _
  have b1 : w1.heap[w.heap.size]? = some (.cells #[.int .i64 3, .slice none 0 0, .slice none 0 0, .slice none 0 0] 36 (0, 0)) := by rw [← hw1]; exact heap_alloc_new w _
  have hw1s : w1.heap.size = w.heap.size + 1 := by rw [← hw1]; simp
  clear hw1 c0 c1
  obtain ⟨vb, hvb⟩ : ∃ vb, vb = w.heap.size := ⟨_, rfl⟩
  rw [← hvb] at b1 hw1s ⊢
  have hlv : ∀ k, lv.ownBlock = some k → k < vb := fun k hk => by
    obtain ⟨_, _, _, ts, _, hown, _⟩ := hx
    rw [hvb]
    exact own_lt' hown k hk
  have hgv : g < vb := by rw [hvb]; exact hlt
  have hx1 := hx.keep F1 (fun _ _ h => h)
  have gl1 := gl.keep F1 (fun _ h => h.elim)
  have hst : st = { st with at_ := (i : Int), err := 0, bad := st.bad } := by rw [← hi, ← herr]
  have HVB := Lib.hid hvb
  have HST := Lib.hid hst
  clear hst hvb
  go_loopw [4] (fun _ w' => SymInv B g s st lv i vb w1 w') (fun _ w' => s.size + 1 - placeOf w' g)
  case atStart => exact ⟨i, 0, 0, st.bad, [], _, Nat.le_refl _, hle, Nat.zero_le _, rfl, HST.out ▸ hx1, b1, World.ownsRow_nil _ _ _ _, Fr.refl _ _, .inl ⟨rfl, rfl, s.size + 1, by omega, rfl⟩⟩
  case round =>
    obtain ⟨j, n, e, b, S, sv, hij, hj, hnj, hSn, hxr, hvr, own, Fr1, hrel2⟩ := hrel
    obtain ⟨sa, sc, rfl⟩ := own_shape own
    obtain ⟨d0, d1, d2, d3, d4, -, f1, -⟩ := blk5 hxr.2.1
    dsimp only at d1 d3 d4
    obtain ⟨q0, q1, q2, q3, -⟩ := blk4 hvr
    have Fw : Fr (fun k => k = g) w wr := (F1.mono (fun _ h => h.elim)).trans' Fr1 (fun k hk h => h.elim id (fun h2 => by have := HVB.out; omega))
    have hv : VCells wr (LxF wr g lv) ⟨3, [], S⟩ [.int .i64 3, .slice none 0 0, (.slice sa n sc), .slice none 0 0] :=
      ⟨_, _, rfl, Rd1.nil, Rd1.of_own (by rw [hSn]; exact own) (fun k hk => ⟨(own.lt k hk).2, by have := (own.lt k hk).1; omega, fun h => by have := (own.lt k hk).1; have := hlv k h.symm; omega⟩)⟩
    have hn70 : n ≤ 70000 := by omega
    have pkc : ∀ m : Int, 0 ≤ m → m ≤ 10 → True := fun _ _ _ => trivial
    by_cases he : e = 0
    · by_cases h96 : pkI s j = 96
      · have hj1 : j < s.size := pkI_pos (by rw [h96]; decide)
        have hbb : b = st.bad := by
          rcases hrel2 with ⟨_, h, _⟩ | ⟨h, _⟩
          · exact h
          · exact absurd he h
        obtain ⟨f, hf, hs2⟩ : ∃ f, s.size < f + 1 + j ∧ symsS (s.size + 1) s i [] = symsS (f + 1) s j S := by
          rcases hrel2 with ⟨_, _, f, hf, hs2⟩ | ⟨h, _⟩
          · exact ⟨f - 1, by omega, by rw [show f - 1 + 1 = f by omega]; exact hs2⟩
          · exact absurd he h
        have HS := Lib.hid (hs2.trans (symsS_tick h96))
        clear hs2 hrel2
        subst he
        subst hbb
        have z96 : (pkI s (j : Int) == 96) = true := by simpa using h96
        clear h96
        by_cases hmax : 65536 ≤ n
        · have hR : symsR s st i = .error (6, (j : Int)) := by
            unfold symsR
            rw [HS.out, if_pos (by omega)]
          have HR := Lib.hid hR
          have hm1 : (65536 : Int) ≤ (n : Int) := by omega
          clear hR
          go_wp2_with (go_at_call 20; refine (peek_c (by exact d0) (by exact d1) (by omega) (by omega) (by omega) (by omega) (by omega)).mono ?_; rintro e w' ⟨rfl, n1, rfl⟩)
          refine (fail_c (lv := lv) (st := { st with at_ := (j : Int), err := 0, bad := st.bad }) (s := s) (B := B) (by exact hxr) 6 j).mono ?_
          rintro e w3 ⟨rfl, hx3, F3⟩
          go_wp2_with (fail)
          refine bodyPost_ret (results_none rfl _ _ _) rfl ?_
          refine ⟨rfl, ?_, (Fw.trans F3.of_drewN).mono (fun _ h => .inl h)⟩
          rw [HR.out]
          exact ⟨_, lv, hx3, rfl, rfl⟩
        · have hm1 : decide ((65536 : Int) ≤ (n : Int)) = false := by simp; omega
          go_upto_block 2 with (go_at_call 20; refine (peek_c (by exact d0) (by exact d1) (by omega) (by omega) (by omega) (by omega) (by omega)).mono ?_; rintro e w' ⟨rfl, n1, rfl⟩)
          go_cut [5, 6] (fun v5 v6 wx => ((∃ (b : ByteArray) (nn : Nat), symRaw s j = .ok (b, nn) ∧ v5 = .string b ∧ v6 = .int .i64 nn ∧ IsLx wx B g s { st with at_ := (j : Int), err := 0, bad := st.bad } lv) ∨ (∃ e b : Int, symRaw s j = .error (e, b) ∧ e ≠ 0 ∧ IsLx wx B g s { st with at_ := (j : Int), err := e, bad := b } lv)) ∧ Fr (fun k => k = g) wr wx)
          case first =>
            generalize hw5 : World.drewN wr _ = w5
            have F5 : Fr (fun _ => False) wr w5 := by rw [← hw5]; exact (Fr.refl _ _).drewN _
            have hx5 := hxr.keep F5 (fun _ _ h => h)
            have gl5 := (gl1.keep Fr1 (fun k hk => hk.elim (fun h => by rw [h]; exact hx.1) (fun h => by rw [h, HVB.out]; exact gl.size))).keep F5 (fun _ h => h.elim)
            obtain ⟨c0, c1, -, -, -, -, k1, -⟩ := blk5 hx5.2.1
            dsimp only at c1
            clear hw5
            by_cases h34 : pkI s ((j : Int) + 1) = 34
            · have hj2 : j + 1 < s.size := by
                have h2 : pkI s ((j + 1 : Nat) : Int) ≠ 0 := by
                  have : (((j + 1 : Nat) : Int)) = (j : Int) + 1 := by omega
                  rw [this, h34]
                  decide
                exact pkI_pos h2
              have hraw : symRaw s j = (match quotedS s (j + 1) with | some (b, n) => .ok (⟨b.toArray⟩, n) | none => .error (142, ((j + 1 : Nat) : Int))) := by unfold symRaw; rw [if_pos h34]; rfl
              have HW := Lib.hid hraw
              have z34 : (pkI s ((j : Int) + 1) == 34) = true := by simpa using h34
              clear hraw h34
              go_wp2_with (go_at_call 20; refine (peek_c (by exact c0) (by exact c1) (by omega) (by omega) (by omega) (by omega) (by omega)).mono ?_; rintro e w' ⟨rfl, n2, rfl⟩)
              refine (quoted_c (k := 1) (lv := lv) (st := { st with at_ := (j : Int), err := 0, bad := st.bad }) (s := s) (B := B) (gl5.keep ((Fr.refl (fun _ => False) _).drewN _) (fun _ h => h.elim)) (by exact hx5) j rfl (by omega) hs).mono ?_
              rintro e w6 ⟨hA, hB, F6⟩
              have F56 : Fr (fun k => k = g) wr w6 := (F5.mono (fun _ h => h.elim)).trans F6.of_drewN
              cases hq : quotedS s (j + 1) with
              | some p =>
                obtain ⟨b, nn⟩ := p
                obtain ⟨rfl, hx6⟩ := hA b nn hq
                have hraw : symRaw s j = .ok (⟨b.toArray⟩, nn) := by rw [HW.out, hq]
                clear hA hB hq
                go_wp2_with (fail)
                go_meet
                exact ⟨.inl ⟨_, nn, hraw, rfl, rfl, hx6⟩, F56⟩
              | none =>
                obtain ⟨rfl, hx6⟩ := hB hq
                have hraw : symRaw s j = .error (142, ((j + 1 : Nat) : Int)) := by rw [HW.out, hq]
                clear hA hB hq
                go_wp2_with (fail)
                go_meet
                exact ⟨.inr ⟨142, _, hraw, by decide, by simpa [failSt] using hx6⟩, F56⟩
            · have z34 : (pkI s ((j : Int) + 1) == 34) = false := by simpa using h34
              by_cases hlet : ltI (pkI s ((j : Int) + 1)) = true
              · have hraw : symRaw s j = .ok (subS s (j + 1) (runN lnI s (j + 1)), runN lnI s (j + 1)) := by unfold symRaw; rw [if_neg h34, if_pos hlet]
                have HW := Lib.hid hraw
                clear hraw h34
                go_wp2_with (first | (go_at_call 20; refine (peek_c (by exact c0) (by exact c1) (by omega) (by omega) (by omega) (by omega) (by omega)).mono ?_; rintro e w' ⟨rfl, n2, rfl⟩) | (go_at_call 19; refine (letter_c _ _).mono ?_; rintro e w' ⟨rfl, rfl⟩))
                generalize hw6 : World.setCell _ ⟨g, 1, none⟩ _ = w6
                have F6 : Fr (fun k => k = g) wr w6 := by
                  rw [← hw6]
                  first | exact ((F5.mono (fun _ h => h.elim)).drewN _).set1 1 _ | exact (((F5.mono (fun _ h => h.elim)).drewN _).drewN _).set1 1 _
                have g6 : w6.heap[g]? = some (.cells #[.string s, .int .i64 ((j + 1 : Nat) : Int), lv, .int .i64 0, .int .i64 st.bad] 44 (0, 0)) := by
                  rw [← hw6]
                  first | exact set_place hx5.2.1 | (rw [show ((j + 1 : Nat) : Int) = (j : Int) + 1 by omega]; exact set_place hx5.2.1)
                clear hw6 c0 c1 k1
                obtain ⟨d0, d1, d2, d3, d4, e0, e1, e2, e3, e4⟩ := blk5 g6
                have hsz := subS_size s (j + 1) (runN lnI s (j + 1)) (runN_le lnI s (j + 1) (by omega))
                refine (run_c _ _ tells_long d0 d1 (by omega) (by omega)).mono ?_
                rintro e w' ⟨rfl, n3, rfl⟩
                clear d2 d3 d4 e0 e2 e3 e4
                generalize runN lnI s (j + 1) = rn at *
                generalize subS s (j + 1) rn = rt at *
                go_wp2_with (fail)
                generalize hw7 : World.setCell _ ⟨g, 1, none⟩ _ = w7
                have F7 : Fr (fun k => k = g) wr w7 := by rw [← hw7]; exact (F6.drewN _).set1 1 _
                have g7 : w7.heap[g]? = some (.cells #[.string s, .int .i64 (j : Int), lv, .int .i64 0, .int .i64 st.bad] 44 (0, 0)) := by
                  rw [← hw7]
                  first | exact set_place g6 | (rw [show (j : Int) = ((j + 1 : Nat) : Int) - 1 by omega]; exact set_place g6)
                go_meet
                exact ⟨.inl ⟨_, rn, HW.out, rfl, rfl, hxr.place _ F7 g7⟩, F7⟩
              · have hlet' : ltI (pkI s ((j : Int) + 1)) = false := by simpa using hlet
                have hraw : symRaw s j = .ok (⟨#[]⟩, 0) := by unfold symRaw; rw [if_neg h34, if_neg hlet]
                have HW := Lib.hid hraw
                clear hraw h34 hlet
                go_wp2_with (first | (go_at_call 20; refine (peek_c (by exact c0) (by exact c1) (by omega) (by omega) (by omega) (by omega) (by omega)).mono ?_; rintro e w' ⟨rfl, n2, rfl⟩) | (go_at_call 19; refine (letter_c _ _).mono ?_; rintro e w' ⟨rfl, rfl⟩))
                go_meet
                exact ⟨.inl ⟨_, 0, HW.out, rfl, rfl, by exact hx5⟩, (F5.mono (fun _ h => h.elim)).drewN _⟩
          case rest =>
            rcases hcut with ⟨⟨b, nn, hraw, rfl, rfl, hxc⟩ | ⟨e, bb, hraw, he, hxc⟩, Fc⟩
            · obtain ⟨hnn, hbn⟩ := symRaw_size hraw hj1
              obtain ⟨c0, c1, c2, c3, c4, -, k1, -⟩ := blk5 hxc.2.1
              dsimp only at c1 c3 c4
              have HW := Lib.hid hraw
              clear hraw d0 d1 d2 d3 d4
              go_upto_block 3 with (fail)
              go_cut [4] (fun v4 wx => v4 = .int .i64 (j : Int) ∧ ((symChk b j = none ∧ IsLx wx B g s { st with at_ := (j : Int), err := 0, bad := st.bad } lv) ∨ (∃ e bb : Int, symChk b j = some (e, bb) ∧ e ≠ 0 ∧ IsLx wx B g s { st with at_ := (j : Int), err := e, bad := bb } lv)) ∧ Fr (fun k => k = g) wc wx)
              case first =>
                by_cases h64 : 64 < b.size
                · have z64 : (64 : Int) < (b.size : Int) := by omega
                  have hck : symChk b j = some (1, (j : Int)) := by unfold symChk; rw [if_pos h64]
                  have HK := Lib.hid hck
                  clear hck h64
                  go_wp2_with (fail)
                  refine (fail_c (lv := lv) (st := { st with at_ := (j : Int), err := 0, bad := st.bad }) (s := s) (B := B) (by exact hxc) 1 j).mono ?_
                  rintro e w3 ⟨rfl, hx3, F3⟩
                  go_wp2_with (fail)
                  go_meet
                  exact ⟨rfl, .inr ⟨1, _, HK.out, by decide, by simpa [failSt] using hx3⟩, F3⟩
                · have z64 : decide ((64 : Int) < (b.size : Int)) = false := by simp; omega
                  obtain ⟨Z, hZ0⟩ : ∃ Z, Z = Lib.indexByte b.data.toList 0 := ⟨_, rfl⟩
                  have hZ : Lib.indexByte b.data.toList (0 : Int).toNat.toUInt8 = Z := hZ0.symm
                  by_cases h0 : 0 ≤ Lib.indexByte b.data.toList 0
                  · have hck : symChk b j = some (140, (j : Int)) := by unfold symChk; rw [if_neg h64, if_pos h0]
                    have HK := Lib.hid hck
                    have z0 : 0 ≤ Z := by rw [hZ0]; exact h0
                    clear hck h64 h0 hZ0
                    go_wp2_with (go_at_call 27; refine (Tryd.strings_IndexByte _ _ _).mono ?_; rintro e wc ⟨rfl, rfl⟩; rw [hZ])
                    refine (fail_c (lv := lv) (st := { st with at_ := (j : Int), err := 0, bad := st.bad }) (s := s) (B := B) (by exact hxc) 140 j).mono ?_
                    rintro e w3 ⟨rfl, hx3, F3⟩
                    go_wp2_with (fail)
                    go_meet
                    exact ⟨rfl, .inr ⟨140, _, HK.out, by decide, by simpa [failSt] using hx3⟩, F3⟩
                  · have hck : symChk b j = none := by unfold symChk; rw [if_neg h64, if_neg h0]
                    have HK := Lib.hid hck
                    have z0 : decide (0 ≤ Z) = false := by rw [hZ0]; simpa using h0
                    clear hck h64 h0 hZ0
                    go_wp2_with (go_at_call 27; refine (Tryd.strings_IndexByte _ _ _).mono ?_; rintro e wc ⟨rfl, rfl⟩; rw [hZ])
                    go_meet
                    exact ⟨rfl, .inl ⟨HK.out, hxc⟩, Fr.refl _ _⟩
              case rest =>
                obtain ⟨rfl, hres, Fd⟩ := hcut
                obtain ⟨e, bb, hxd, hres2⟩ : ∃ e bb : Int, IsLx wc B g s { st with at_ := (j : Int), err := e, bad := bb } lv ∧
                    ((e = 0 ∧ bb = st.bad ∧ symChk b j = none) ∨ (e ≠ 0 ∧ symChk b j = some (e, bb))) := by
                  rcases hres with ⟨h1, h2⟩ | ⟨e, bb, h1, h2, h3⟩
                  · exact ⟨0, st.bad, h2, .inl ⟨rfl, rfl, h1⟩⟩
                  · exact ⟨e, bb, h3, .inr ⟨h2, h1⟩⟩
                have HRES := Lib.hid hres2
                clear hres hres2 c0 c1 c2 c3 c4 k1
                obtain ⟨c0, c1, c2, c3, c4, -, k1, -⟩ := blk5 hxd.2.1
                dsimp only at c1 c3 c4
                have y1 : IntKind.i64.wrap (1 + (nn : Int)) = 1 + (nn : Int) := IntWalk.i64_in _ (by omega)
                have y2 : IntKind.i64.wrap ((j : Int) + (1 + (nn : Int))) = (j : Int) + (1 + (nn : Int)) := IntWalk.i64_in _ (by omega)
                go_upto_region 20 with (fail)
                have Fcd : Fr (fun k => k = g) wr wc := Fc.trans Fd
                generalize hwy : World.setCell wc ⟨g, 1, none⟩ _ = wy
                have Fy : Fr (fun k => k = g) wr wy := by rw [← hwy]; exact Fcd.set1 1 _
                have gy : wy.heap[g]? = some (.cells #[.string s, .int .i64 ((j + 1 + nn : Nat) : Int), lv, .int .i64 e, .int .i64 bb] 44 (0, 0)) := by
                  rw [← hwy]
                  first | exact set_place hxd.2.1 | (rw [show ((j + 1 + nn : Nat) : Int) = (j : Int) + (1 + (nn : Int)) by omega]; exact set_place hxd.2.1)
                clear hwy c0 c1 c2 c3 c4 k1
                have hvlt : vb < wr.heap.size := (Array.getElem?_eq_some_iff.1 hvr).1
                have hvy : wy.heap[vb]? = some (.cells #[.int .i64 3, .slice none 0 0, .slice sa n sc, .slice none 0 0] 36 (0, 0)) := (Fy.block vb hvlt (by omega)).trans hvr
                have owny := Fy.owns own (fun k hk h => by have := (own.lt k hk).1; omega)
                obtain ⟨q0, q1, q2, q3, -⟩ := blk4 hvy
                obtain ⟨ii, hii, hz, hsz, hby⟩ := info_parts Tryd.infoStr
                have hvs : vb + 1 ≤ wy.heap.size := by have := Fy.size; omega
                go_wp2_with (at_builtin; refine hold ?_)
                refine Hold.mk ?_
                refine wpList_append_own2 rfl (.tmp 110) (.tmp 112) 33 rfl (vb + 1) 9 ii _ 1 16 Tryd.underlying33 hii hz hsz hby rfl (by omega) _ n _ rfl (owny.alloc _) ⟨wy.heap.size, 0, none⟩ 1 1 (by omega) [.string b] rfl rfl (cell_one_new _ _ _) (fun u hu => by simp at hu; subst hu; rfl) (by unfold maxLen; omega) (by omega) (Nat.le_trans hvs (World.grownBy_alloc wy _ none).size) ?_
                intro g' cap' w8 own8 hgr hsame
                have hq8 : S.map Value.string ++ [Value.string b] = (S ++ [b]).map Value.string := by simp
                rw [hq8] at own8
                have hne : ∀ k, (Value.slice sa n sc).ownBlock = some k → vb + 1 ≤ k := fun k hk => (owny.lt k hk).1
                have hv8 : w8.heap[vb]? = some (.cells #[.int .i64 3, .slice none 0 0, .slice sa n sc, .slice none 0 0] 36 (0, 0)) :=
                  (hgr.block vb (by have := (World.grownBy_alloc wy (.cells #[Value.string b] 9) none).size; omega) (fun h => by have := hne vb h.symm; omega)).trans ((heap_alloc_old wy _ (by omega)).trans hvy)
                have g8 : w8.heap[g]? = some (.cells #[.string s, .int .i64 ((j + 1 + nn : Nat) : Int), lv, .int .i64 e, .int .i64 bb] 44 (0, 0)) :=
                  (hgr.block g (by have := (World.grownBy_alloc wy (.cells #[Value.string b] 9) none).size; omega) (fun h => by have := hne g h.symm; omega)).trans ((heap_alloc_old wy _ (by omega)).trans gy)
                obtain ⟨r0, r1, r2, r3, k0, k1, k2, k3⟩ := blk4 hv8
                go_wp2_with (fail)
                have Fg : Fr (fun k => k = g ∨ k = vb ∨ some k = (Value.slice sa n sc).ownBlock) wr w8 := ((Fy.mono (fun _ h => .inl h)).alloc _).grown hgr (fun k hk _ => .inr (.inr hk.symm))
                have FS : Fr (fun k => k = vb) w8 (w8.setCell ⟨vb, 2, none⟩ (.slice (some ⟨g', 0, none⟩) (n + 1) cap')) := (Fr.refl (fun k => k = vb) w8).set1 2 _
                have F8 : Fr (fun k => k = g ∨ k = vb) w1 (w8.setCell ⟨vb, 2, none⟩ (.slice (some ⟨g', 0, none⟩) (n + 1) cap')) := by
                  refine (Fr1.trans' Fg (fun k hk h => ?_)).trans (FS.mono (fun _ h => .inr h))
                  rcases h with h | h | h
                  · exact .inl h
                  · exact .inr h
                  · have := hne k h.symm
                    omega
                have gE := (FS.block g (Array.getElem?_eq_some_iff.1 g8).1 (by omega)).trans g8
                have vE := heap_cell5 hv8 2 (.slice (some ⟨g', 0, none⟩) (n + 1) cap')
                have ownE := FS.owns own8 (fun k hk h => by have := (own8.lt k hk).1; omega)
                have FE : Fr (fun k => k = g) w (w8.setCell ⟨vb, 2, none⟩ (.slice (some ⟨g', 0, none⟩) (n + 1) cap')) := (F1.mono (fun _ h => h.elim)).trans' F8 (fun k hk h => h.elim id (fun h2 => by have := HVB.out; omega))
                generalize w8.setCell ⟨vb, 2, none⟩ (.slice (some ⟨g', 0, none⟩) (n + 1) cap') = wE at *
                have hxE : IsLx wE B g s { st with at_ := ((j + 1 + nn : Nat) : Int), err := e, bad := bb } lv := hx.upd gE rfl FE
                obtain ⟨-, m1, -⟩ := blk5 gE
                obtain ⟨-, m2, -⟩ := blk5 hxr.2.1
                refine ⟨⟨j + 1 + nn, n + 1, e, bb, S ++ [b], _, by omega, hnn, by omega, by simp [hSn], hxE, vE, ownE, F8, ?_⟩, ?_⟩
                · rcases HRES.out with ⟨h1, h2, h3⟩ | ⟨h1, h3⟩
                  · refine .inl ⟨h1, h2, f, by omega, ?_⟩
                    rw [HS.out, if_neg (by omega), HW.out]
                    simp only [h3]
                  · refine .inr ⟨h1, ?_⟩
                    rw [HS.out, if_neg (by omega), HW.out]
                    simp only [h3]
                · unfold placeOf
                  rw [m1, m2]
                  simp only []
                  omega
            · have hR : symsR s st i = .error (e, bb) := by
                unfold symsR
                rw [HS.out, if_neg (by omega), hraw]
              have HR := Lib.hid hR
              have he' : (e != 0) = true := by simpa using he
              obtain ⟨c0, c1, c2, c3, c4, -⟩ := blk5 hxc.2.1
              dsimp only at c1 c3 c4
              clear hR hraw he d0 d1 d2 d3 d4
              go_wp2_with (fail)
              refine bodyPost_ret (results_none rfl _ _ _) rfl ?_
              refine ⟨rfl, ?_, (Fw.trans Fc).mono (fun _ h => .inl h)⟩
              rw [HR.out]
              exact ⟨_, lv, hxc, rfl, rfl⟩
      · have hR : symsR s st i = .ok { st with at_ := (j : Int), toks := st.toks ++ [⟨1, (i : Int), (j : Int), s.extract i j, vAtom ⟨3, [], S⟩⟩] } := by
          rcases hrel2 with ⟨_, _, f, hf, hs2⟩ | ⟨h, _⟩
          · unfold symsR
            rw [hs2]
            obtain ⟨f', rfl⟩ : ∃ f', f = f' + 1 := ⟨f - 1, by omega⟩
            rw [symsS, if_neg h96]
          · exact absurd he h
        have hbb : b = st.bad := by
          rcases hrel2 with ⟨_, h, _⟩ | ⟨h, _⟩
          · exact h
          · exact absurd he h
        have HR := Lib.hid hR
        clear hR hrel2
        subst he
        subst hbb
        have z96 : (pkI s (j : Int) == 96) = false := by simpa using h96
        clear h96
        go_wp2_with (go_at_call 20; refine (peek_c (by exact d0) (by exact d1) (by omega) (by omega) (by omega) (by omega) (by omega)).mono ?_; rintro e w' ⟨rfl, n1, rfl⟩)
        refine (value_c (v := ⟨3, [], S⟩) (lv := lv) (st := { st with at_ := (j : Int), err := 0, bad := st.bad }) (s := s) (B := B) (by exact hxr) i j rfl hij hj hs _ (by exact hv) hn (by show (0 : Int) ≤ 3; omega) (by show (3 : Int) ≤ 200; omega) (by simp) (by show S.length ≤ _; omega)).mono ?_
        rintro e w3 ⟨rfl, lv', hx3, F3⟩
        go_wp2_with (fail)
        go_end0
        refine ⟨rfl, ?_, (Fw.mono (fun _ h => .inl h)).trans F3.of_drewN⟩
        rw [HR.out]
        exact ⟨lv', by rw [herr]; exact hx3⟩
    · have hR : symsR s st i = .error (e, b) := by
        rcases hrel2 with ⟨h, _⟩ | ⟨_, h⟩
        · exact absurd h he
        · unfold symsR
          rw [h]
      have HR := Lib.hid hR
      have he' : (e == 0) = false := by simpa using he
      clear hR hrel2 he
      go_wp2_with (fail)
      refine (value_c (v := ⟨3, [], S⟩) hxr i j rfl hij hj hs _ hv hn (by show (0 : Int) ≤ 3; omega) (by show (3 : Int) ≤ 200; omega) (by simp) (by show S.length ≤ _; omega)).mono ?_
      rintro e w3 ⟨rfl, lv', hx3, F3⟩
      go_wp2_with (fail)
      go_end0
      refine ⟨rfl, ?_, (Fw.mono (fun _ h => .inl h)).trans F3⟩
      rw [HR.out]
      exact ⟨_, lv', hx3, rfl, rfl⟩
end Go.Proofs.YtnoplebjkbfedaaDoor
