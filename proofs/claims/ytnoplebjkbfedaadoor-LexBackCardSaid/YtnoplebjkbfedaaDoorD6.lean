/- Lex: the walk. -/
import Derived.Test.YtnoplebjkbfedaaDoorD5
namespace Go.Proofs.YtnoplebjkbfedaaDoor
open Go Go.RowKit
set_option linter.unusedSimpArgs false
set_option linter.unusedVariables false
set_option maxRecDepth 100000
/-- A row of tokens of the call's own. -/
def TokRow (w : World) (base : Nat) (lv : Value) (toks : List Tok) : Prop :=
  ∃ ts : List (Tok × List Value), toks = ts.map Prod.fst ∧ w.ownsRow base 38 8 lv ts.length (ts.map Prod.snd).flatten ∧ ∀ p ∈ ts, TokCells w (fun b => b < w.heap.size) p.1 p.2
theorem TokRow.keep {w w' : World} {base : Nat} {lv : Value} {toks : List Tok} (h : TokRow w base lv toks) (F : Fr (fun _ => False) w w') : TokRow w' base lv toks := by
  obtain ⟨ts, h1, h2, h3⟩ := h
  exact ⟨ts, h1, F.owns h2 (fun _ _ => id), fun p hp => (h3 p hp).kept (fun b hb => F.block b hb id) (fun b hb => Nat.lt_of_lt_of_le hb F.size)⟩
theorem IsLx.row {w : World} {B g : Nat} {s : ByteArray} {st : LxSt} {lv : Value} (h : IsLx w B g s st lv) : TokRow w B lv st.toks := by
  obtain ⟨_, _, _, ts, h1, h2, h3⟩ := h
  exact ⟨ts, h1, h2, fun p hp => (h3 p hp).kept (fun _ _ => rfl) (fun b hb => hb.1)⟩
theorem TokRow.shape {w : World} {base : Nat} {lv : Value} {toks : List Tok} (h : TokRow w base lv toks) : ∃ a c, lv = .slice a toks.length c := by
  obtain ⟨ts, h1, h2, _⟩ := h
  rw [h1, List.length_map]
  exact own_shape h2
def LexEndsV (r : LxEnd (List Tok)) (base : Nat) (e : Ending) (w' : World) : Prop := match r with
  | .ok toks => ∃ lv, e = .returned (.tuple #[lv, .int .i64 0, .int .i64 0]) ∧ TokRow w' base lv toks
  | .error (er, b) => e = .returned (.tuple #[.slice none 0 0, .int .i64 er, .int .i64 b])
def LexOut (s : ByteArray) (w : World) (e : Ending) (w' : World) : Prop := LexEndsV (lexS s) w.heap.size e w' ∧ Fr (fun _ => False) w w'
def lexMeas (w : World) (g n : Nat) : Nat := match w.cell? ⟨g, 3, none⟩ with
  | some (.int _ e) => if e = 0 then n + 2 - placeOf w g else 0
  | _ => 0
def LexInv (w : World) (g : Nat) (s : ByteArray) (w' : World) : Prop :=
  ∃ (st : LxSt) (lv : Value), IsLx w' w.heap.size g s st lv ∧ Fr (fun _ => False) w w' ∧
    ((st.err = 0 ∧ ∃ f a, st.at_ = ((a : Nat) : Int) ∧ a ≤ s.size ∧ s.size < f + a ∧ st.toks.length ≤ 16384 ∧ (a ≠ 0 → st.toks ≠ []) ∧ Hid (lexF (s.size + 1) s ⟨0, [], 0, 0⟩ = lexF f s st)) ∨
      (st.err ≠ 0 ∧ Hid (lexF (s.size + 1) s ⟨0, [], 0, 0⟩ = .error (st.err, st.bad))))
theorem Gl.all {B : Nat} {w : World} (gl : Gl B w) : Gl w.heap.size w := { gl with l0 := Nat.lt_of_lt_of_le gl.l0 gl.size, l1 := Nat.lt_of_lt_of_le gl.l1 gl.size, l2 := Nat.lt_of_lt_of_le gl.l2 gl.size, size := Nat.le_refl _ }
theorem lxS_base {w : World} {B g : Nat} {s : ByteArray} {st : LxSt} {lv : Value} (h : IsLx w B g s st lv) : ∀ k, LxS g lv k → B ≤ k := by
  obtain ⟨hB, _, _, ts, _, hown, _⟩ := h
  intro k hk
  rcases hk with rfl | hk
  · exact hB
  · exact (hown.lt k hk.symm).1
theorem lexS_long {s : ByteArray} (h : 65536 < s.size) : lexS s = .error (1, 0) := by unfold lexS; rw [if_pos h]
theorem lexS_fit {s : ByteArray} (h : ¬65536 < s.size) : lexS s = lexF (s.size + 1) s ⟨0, [], 0, 0⟩ := by unfold lexS; rw [if_neg h]
theorem lexF_end {f : Nat} {s : ByteArray} {st : LxSt} {a : Nat} (ha : st.at_ = (a : Int)) (h : a + runN blI s a = s.size) : lexF (f + 1) s st = .ok st.toks := by
  have e : st.at_.toNat = a := by rw [ha]; rfl
  rw [lexF, e, if_pos h]
def lexNext (f : Nat) (s : ByteArray) (i : Nat) : LxEnd LxSt → LxEnd (List Tok)
  | .error e => .error e
  | .ok st' => if 16384 < st'.toks.length then .error (6, (i : Int)) else lexF f s st'
theorem lexF_tok {f : Nat} {s : ByteArray} {st : LxSt} {a i : Nat} (ha : st.at_ = (a : Int)) (hi : a + runN blI s a = i) (h : i ≠ s.size) :
    lexF (f + 1) s st = lexNext f s i (tokenR s { st with at_ := (i : Int) } i) := by
  have e : st.at_.toNat = a := by rw [ha]; rfl
  rw [lexF, e, hi, if_neg h]
  cases tokenR s { st with at_ := (i : Int) } i <;> rfl
set_option maxHeartbeats 1600000 in
theorem Lex_long {w : World} (s : ByteArray) (hs : 65536 < s.size) : Calls Tryd.prog 5 #[.string s] w (LexOut s w) := by
  have HL := Lib.hid (lexS_long hs)
  have h1 : (65536 : Int) < (s.size : Int) := by omega
  go_enter Tryd.func5, Tryd.ntmps5
  go_wp2_with (fail)
  go_ret3
  refine ⟨?_, Fr.refl _ _⟩
  rw [HL.out]
  rfl
set_option maxHeartbeats 3200000 in
theorem Lex_fit {w : World} {B : Nat} (gl0 : Gl B w) (s : ByteArray) (hs : s.size ≤ 65536) : Calls Tryd.prog 5 #[.string s] w (LexOut s w) := by
  have HL := Lib.hid (lexS_fit (by omega : ¬65536 < s.size))
  have gl := gl0.all
  have h1 : decide ((65536 : Int) < (s.size : Int)) = false := by simp; omega
  go_enter Tryd.func5, Tryd.ntmps5
  go_wp2_with (fail)
  generalize hw1 : w.alloc _ = w1
  have F1 : Fr (fun _ => False) w w1 := by rw [← hw1]; exact (Fr.refl _ _).alloc _
  have b1 : w1.heap[w.heap.size]? = some (.cells #[.string s, .int .i64 0, .slice none 0 0, .int .i64 0, .int .i64 0] 44 (0, 0)) := by rw [← hw1]; exact heap_alloc_new w _
  clear hw1
  obtain ⟨g, hg⟩ : ∃ g, g = w.heap.size := ⟨_, rfl⟩
  rw [← hg] at b1 ⊢
  have hx1 : IsLx w1 w.heap.size g s ⟨0, [], 0, 0⟩ (.slice none 0 0) := ⟨by omega, b1, by simp [Value.ownBlock], [], rfl, World.ownsRow_nil _ _ _ _, fun p hp => by cases hp⟩
  have HG := Lib.hid hg
  clear hg b1
  go_loopw [6] (fun _ w' => LexInv w g s w') (fun _ w' => lexMeas w' g s.size)
  case atStart => exact ⟨⟨0, [], 0, 0⟩, _, hx1, F1, .inl ⟨rfl, s.size + 1, 0, rfl, Nat.zero_le _, by omega, Nat.zero_le _, fun h => absurd rfl h, Lib.hid rfl⟩⟩
  case round =>
    obtain ⟨st, lv, hx, Fr1, hcase⟩ := hrel
    obtain ⟨c0, c1, c2, c3, c4, -, k1, -⟩ := blk5 hx.2.1
    rcases hcase with ⟨herr, f, a, ha, hale, hfa, hcnt, hne, HF⟩ | ⟨herr, HF⟩
    · have he : (st.err == 0) = true := by simpa using herr
      have HE := Lib.hid herr
      rw [ha] at c1
      have HA := Lib.hid ha
      have hrl := runN_le blI s a hale
      have hsz := subS_size s a (runN blI s a) hrl
      obtain ⟨i, hi⟩ : ∃ i, i = a + runN blI s a := ⟨_, rfl⟩
      have HI := Lib.hid hi
      have hpr : i ≠ 0 → pkI s (i - 1) ≠ 32 → st.toks ≠ [] := by
        intro h0 h1
        rcases Nat.eq_zero_or_pos (runN blI s a) with hr | hr
        · exact hne (by omega)
        · have := pk_run_in s a (runN blI s a - 1) (by omega)
          have e : ((a + (runN blI s a - 1) : Nat) : Int) = (i : Int) - 1 := by omega
          rw [e] at this
          exact absurd this h1
      have HPR := Lib.hid hpr
      have hil : i ≤ s.size := by omega
      have hi1 : i ≤ a + runN blI s a := by omega
      have hi2 : a + runN blI s a ≤ i := by omega
      clear herr ha hpr hne hi
      have y3 : IntKind.i64.wrap ((a : Int) + ((subS s a (runN blI s a)).size : Int)) = (i : Int) := (IntWalk.i64_in _ (by omega)).trans (by omega)
      go_wp2_with (fail)
      refine wp_region_mix (fun w' => w'.cell? ⟨g, 1, none⟩ = some (.int .i64 (a : Int))) 14 [(.p, 0), (.p, 1), (.p, 2), (.p, 3), (.h [14, 4], 4), (.p, 5), (.p, 6), (.p, 7), (.w true, 8), (.p, 9), (.p, 10), (.p, 11), (.p, 12), (.p, 13), (.w false, 14)] (by kernel_rfl) (by kernel_rfl) rfl (by kernel_rfl) ?_ ?_
      · go_simp
      repeat (refine wpMix_look rfl rfl (fun K hK => ?_); go_simp; refine hK _ ?_; clear hK K)
      refine wpMix_held rfl rfl (.int .i64 (a : Int)) (fun w' hw' => ?_) (fun K hK => ?_)
      · go_simp
      go_simp; refine hK _ ?_; clear hK K
      repeat (refine wpMix_look rfl rfl (fun K hK => ?_); go_simp; refine hK _ ?_; clear hK K)
      refine wpMix_loud rfl (fun K hK => ?_)
      go_wp2_with (fail)
      refine (run_c _ _ tells_blank (by exact c0) (by exact c1) (by omega) (by omega)).mono ?_
      rintro e w' ⟨rfl, n2, rfl⟩
      generalize subS s a (runN blI s a) = tx at *
      go_wp2_with (fail)
      refine thenN_normal (hK _ _ (fun _ => by go_simp) ?_)
      clear hK K
      repeat (refine wpMix_look rfl rfl (fun K hK => ?_); go_simp; refine hK _ ?_; clear hK K)
      refine wpMix_loud rfl (fun K hK => ?_)
      go_wp2_with (fail)
      refine thenN_normal (hK _ _ (fun h => by first | cases h | go_simp) (wpMix_nil ?_))
      clear hK K
      generalize hwa : World.setCell _ ⟨g, 1, none⟩ _ = wa
      have Fwa : Fr (fun k => k = g) wr wa := by
        rw [← hwa]
        first | exact (Fr.refl (fun k => k = g) wr).set1 1 _ | exact ((Fr.refl (fun k => k = g) wr).drewN _).set1 1 _ | exact (((Fr.refl (fun k => k = g) wr).drewN _).drewN _).set1 1 _ | exact (((Fr.refl (fun k => k = g) wr).drew).drewN _).set1 1 _
      have gwa : wa.heap[g]? = some (.cells #[.string s, .int .i64 (i : Int), lv, .int .i64 st.err, .int .i64 st.bad] 44 (0, 0)) := by
        rw [← hwa]
        first | exact set_place hx.2.1 | (rw [show (i : Int) = (a : Int) + (runN blI s a : Int) by omega]; exact set_place hx.2.1)
      clear hwa c0 c1 c2 c3 c4 k1 y3
      have hxa : IsLx wa w.heap.size g s { st with at_ := (i : Int) } lv := hx.place _ Fwa gwa
      have Fa : Fr (fun _ => False) w wa := Fr1.trans' Fwa (fun k hk h => by have := HG.out; omega)
      obtain ⟨c0, c1, c2, c3, c4, -, k1, -⟩ := blk5 gwa
      obtain ⟨f', rfl⟩ : ∃ f', f = f' + 1 := ⟨f - 1, by omega⟩
      by_cases hend : i = s.size
      · have hz : ((i : Int) == (s.size : Int)) = true := by simp; omega
        have hfin := HF.out.trans (lexF_end HA.out (by omega))
        have HFIN := Lib.hid hfin
        clear hfin
        go_wp2_with (fail)
        go_ret3
        refine ⟨?_, Fa⟩
        rw [HL.out, HFIN.out]
        exact ⟨lv, rfl, hxa.row⟩
      · have hz : ((i : Int) == (s.size : Int)) = false := by simp; omega
        have hgo := tokenR_goes (s := s) (st := { st with at_ := (i : Int) }) (i := i) rfl (by omega)
        have hfin := HF.out.trans (lexF_tok HA.out HI.out.symm hend)
        have HFIN := Lib.hid hfin
        clear hfin
        go_wp2_with (fail)
        refine (token_c (gl.keep Fa (fun _ h => h.elim)) hxa i rfl (by omega) hs (by show st.toks.length ≤ 1000000; omega) HE.out HPR.out).mono ?_
        rintro e w7 ⟨rfl, hres, F7⟩
        have Fw7 : Fr (fun _ => False) w w7 := Fa.trans' F7 (fun k hk h => by have := lxS_base hxa k h; omega)
        clear c0 c1 c2 c3 c4 k1
        obtain ⟨tr, htr⟩ : ∃ tr, tr = tokenR s { st with at_ := (i : Int) } i := ⟨_, rfl⟩
        have HF2 : Hid (lexF (s.size + 1) s ⟨0, [], 0, 0⟩ = lexNext f' s i tr) := by rw [htr]; exact HFIN
        rw [← htr] at hres hgo
        clear htr HFIN
        rcases tr with ⟨er, bd⟩ | st'
        · obtain ⟨st', lv', hx7, rfl, rfl⟩ := hres
          obtain ⟨c0, c1, c2, c3, c4, -, k1, -⟩ := blk5 hx7.2.1
          have hgo' : st'.err ≠ 0 := hgo
          have he7 : (st'.err == 0) = false := by simpa using hgo'
          have HGO := Lib.hid hgo'
          clear hgo hgo'
          go_wp2_with (fail)
          have HIN : LexInv w g s w7 := ⟨st', lv', hx7, Fw7, .inr ⟨HGO.out, HF2⟩⟩
          refine ⟨HIN, ?_⟩
          have e1 : lexMeas w7 g s.size = 0 := by
            unfold lexMeas
            rw [c3]
            simp only []
            rw [if_neg HGO.out]
          have e2 : 0 < lexMeas wr g s.size := by
            obtain ⟨-, d1, -, d3, -⟩ := blk5 hx.2.1
            unfold lexMeas placeOf
            rw [d3, d1]
            simp only []
            rw [if_pos HE.out, HA.out]
            simp only [Int.toNat_natCast]
            omega
          omega
        · obtain ⟨n, tk, hn0, hns, hst', -⟩ := hgo
          obtain ⟨lv', hx7⟩ := hres
          obtain ⟨lva, lvc, hlv⟩ := hx7.row.shape
          obtain ⟨c0, c1, c2, c3, c4, -, k1, -⟩ := blk5 hx7.2.1
          have herr' : st'.err = 0 := by rw [hst']; exact HE.out
          have hlen' : st'.toks.length = st.toks.length + 1 := by rw [hst']; simp
          have he7 : (st'.err == 0) = true := by simpa using herr'
          have hat' : st'.at_ = ((i + n : Nat) : Int) := by rw [hst']
          have HER := Lib.hid herr'
          have HLN := Lib.hid hlen'
          have HAT := Lib.hid hat'
          have hne' : st'.toks ≠ [] := by rw [hst']; simp
          have HNE := Lib.hid hne'
          subst hlv
          have HST := Lib.hid hst'
          clear herr' hlen' hat' hne' hst'
          by_cases hbig : 16384 < st'.toks.length
          · have hb1 : (16384 : Int) < (st'.toks.length : Int) := by omega
            have HBIG := Lib.hid hbig
            clear hbig
            go_wp2_with (fail)
            refine (fail_c hx7 6 i).mono ?_
            rintro e w8 ⟨rfl, hx8, F8⟩
            have hf8 : failSt st' 6 i = { st' with err := 6, bad := (i : Int) } := by simp [failSt, HER.out]
            rw [hf8] at hx8
            clear c0 c1 c2 c3 c4 k1 hf8
            obtain ⟨c0, c1, c2, c3, c4, -, k1, -⟩ := blk5 hx8.2.1
            go_wp2_with (fail)
            have Fw8 : Fr (fun _ => False) w w8 := Fw7.trans' F8 (fun k hk h => by have := HG.out; omega)
            have HIN : LexInv w g s w8 := ⟨_, _, hx8, Fw8, .inr ⟨by show (6 : Int) ≠ 0; decide, Lib.hid (by rw [HF2.out, lexNext, if_pos HBIG.out])⟩⟩
            refine ⟨HIN, ?_⟩
            have e1 : lexMeas w8 g s.size = 0 := by
              unfold lexMeas
              rw [c3]
              simp only []
              rw [if_neg (by decide)]
            have e2 : 0 < lexMeas wr g s.size := by
              obtain ⟨-, d1, -, d3, -⟩ := blk5 hx.2.1
              unfold lexMeas placeOf
              rw [d3, d1]
              simp only []
              rw [if_pos HE.out, HA.out]
              simp only [Int.toNat_natCast]
              omega
            omega
          · have hb1 : decide ((16384 : Int) < (st'.toks.length : Int)) = false := by simp; omega
            go_wp2_with (fail)
            have HIN : LexInv w g s w7 := ⟨st', _, hx7, Fw7, .inl ⟨HER.out, f', i + n, HAT.out, hns, by omega, by omega, fun _ => HNE.out, Lib.hid (by rw [HF2.out, lexNext, if_neg hbig])⟩⟩
            refine ⟨HIN, ?_⟩
            have e1 : lexMeas w7 g s.size = s.size + 2 - (i + n) := by
              unfold lexMeas placeOf
              rw [c3, c1]
              simp only []
              rw [if_pos HER.out, HAT.out]
              simp only [Int.toNat_natCast]
            have e2 : lexMeas wr g s.size = s.size + 2 - a := by
              obtain ⟨-, d1, -, d3, -⟩ := blk5 hx.2.1
              unfold lexMeas placeOf
              rw [d3, d1]
              simp only []
              rw [if_pos HE.out, HA.out]
              simp only [Int.toNat_natCast]
            omega
    · have he : (st.err == 0) = false := by simpa using herr
      have HE := Lib.hid herr
      clear herr
      go_wp2_with (fail)
      go_quiet (fail)
      go_wp2_with (fail)
      go_ret3
      refine ⟨?_, Fr1.drewN _⟩
      rw [HL.out, HF.out]
      rfl
theorem Lex_c {w : World} {B : Nat} (gl : Gl B w) (s : ByteArray) : Calls Tryd.prog 5 #[.string s] w (LexOut s w) := by
  by_cases h : 65536 < s.size
  · exact Lex_long s h
  · exact Lex_fit gl s (by omega)
end Go.Proofs.YtnoplebjkbfedaaDoor
