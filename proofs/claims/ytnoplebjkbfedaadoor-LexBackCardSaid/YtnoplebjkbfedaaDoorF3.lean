/- The law LexBack: the walk. -/
import Derived.Test.YtnoplebjkbfedaaDoorF2
import Derived.Test.YtnoplebjkbfedaaDoorP4
namespace Go.Proofs.YtnoplebjkbfedaaDoor
open Go Go.RowKit
set_option linter.unusedSimpArgs false
set_option linter.unusedVariables false
set_option maxRecDepth 100000
theorem lexF_err {f : Nat} {s : ByteArray} : ∀ {st : LxSt} {a : Nat} {e b : Int}, st.at_ = (a : Int) → a ≤ s.size → s.size < f + a → lexF f s st = .error (e, b) → e ≠ 0 := by
  induction f with
  | zero =>
    intro st a e b ha hle hf
    omega
  | succ f ih =>
    intro st a e b ha hle hf h
    have hrl := runN_le blI s a hle
    by_cases hend : a + runN blI s a = s.size
    · rw [lexF_end ha hend] at h
      cases h
    · rw [lexF_tok ha rfl hend] at h
      have hgo := tokenR_goes (s := s) (st := { st with at_ := ((a + runN blI s a : Nat) : Int) }) (i := a + runN blI s a) rfl (by omega)
      generalize tokenR s { st with at_ := ((a + runN blI s a : Nat) : Int) } (a + runN blI s a) = tr at h hgo
      rcases tr with ⟨e', b'⟩ | st'
      · unfold lexNext at h
        simp only at h
        injection h with h
        simp only [Prod.mk.injEq] at h
        obtain ⟨rfl, rfl⟩ := h
        exact hgo
      · obtain ⟨n, t, h0, hn, hst', -⟩ := hgo
        unfold lexNext at h
        simp only at h
        split at h
        · injection h with h
          simp only [Prod.mk.injEq] at h
          omega
        · exact ih (st := st') (a := a + runN blI s a + n) (by rw [hst']) hn (by omega) h
theorem lexS_err {s : ByteArray} {e b : Int} (h : lexS s = .error (e, b)) : e ≠ 0 := by
  unfold lexS at h
  split at h
  · injection h with h
    simp only [Prod.mk.injEq] at h
    omega
  · exact lexF_err (a := 0) rfl (Nat.zero_le _) (by omega) h
theorem sides_k {w : World} {base : Nat} {lv : Value} {toks : List Tok} (h : TokRow w base lv toks) (hn : toks.length ≤ 100000) {b : Bool} (hb : sidesL toks = b) :
    Calls Tryd.prog 7 #[lv] w fun e w' => e = .returned (.bool b) ∧ Fr (fun _ => False) w w' := by
  rw [← hb]
  exact sides_c h hn
set_option maxHeartbeats 1600000 in
theorem back_long {w : World} {B : Nat} (gl : Gl B w) (s : ByteArray) (hs : 70000 < s.size) : Calls Tryd.prog 3 #[.string s] w fun e w' => e = .returned (.bool true) ∧ Fr (fun _ => False) w w' := by
  have h1 : (70000 : Int) < (s.size : Int) := by omega
  go_enter Tryd.func3, Tryd.ntmps3
  go_wp2_with (fail)
  refine (live_c gl).mono ?_
  rintro e w1 ⟨rfl, F1⟩
  go_wp2_with (fail)
  go_ret
  exact ⟨rfl, F1⟩
set_option maxHeartbeats 1600000 in
theorem back_bad {w : World} {B : Nat} (gl : Gl B w) (s : ByteArray) (hs : s.size ≤ 70000) {er b : Int} (hl : lexS s = .error (er, b)) : Calls Tryd.prog 3 #[.string s] w fun e w' => e = .returned (.bool true) ∧ Fr (fun _ => False) w w' := by
  have h1 : decide ((70000 : Int) < (s.size : Int)) = false := by simp; omega
  have he : (er != 0) = true := by simpa using lexS_err hl
  go_enter Tryd.func3, Tryd.ntmps3
  go_wp2_with (fail)
  refine (Lex_bad gl hl).mono ?_
  rintro e w1 ⟨rfl, F1⟩
  go_wp2_with (go_at_call 6; refine (num_k _ _).mono ?_; rintro e w' ⟨rfl, rfl⟩)
  refine (live_c (gl.keep F1 (fun _ h => h.elim))).mono ?_
  rintro e w2 ⟨rfl, F2⟩
  go_wp2_with (fail)
  go_ret
  exact ⟨rfl, F1.trans F2⟩
set_option maxHeartbeats 1600000 in
theorem back_side {w : World} {B : Nat} (gl : Gl B w) (s : ByteArray) (hs : s.size ≤ 70000) {toks : List Tok} (hl : lexS s = .ok toks) (hsd : sidesL toks = true) : Calls Tryd.prog 3 #[.string s] w fun e w' => e = .returned (.bool true) ∧ Fr (fun _ => False) w w' := by
  have h1 : decide ((70000 : Int) < (s.size : Int)) = false := by simp; omega
  obtain ⟨hmv, hlen, hsz⟩ := lexS_toks hl
  have HSD := Lib.hid hsd
  clear hsd
  go_enter Tryd.func3, Tryd.ntmps3
  go_wp2_with (fail)
  refine (Lex_to gl hl).mono ?_
  rintro e w1 ⟨lv, rfl, hr, F1⟩
  have gl1 : Gl B w1 := gl.keep F1 (fun _ h => h.elim)
  clear hmv
  go_wp2_with (go_at_call 6; refine (num_k _ _).mono ?_; rintro e w' ⟨rfl, rfl⟩)
  refine (sides_k hr (by omega) HSD.out).mono ?_
  rintro e w2 ⟨rfl, F2⟩
  go_wp2_with (fail)
  refine (live_c (gl1.keep F2 (fun _ h => h.elim))).mono ?_
  rintro e w3 ⟨rfl, F3⟩
  go_wp2_with (fail)
  go_ret
  exact ⟨rfl, (F1.trans F2).trans F3⟩
theorem joinB_size (toks : List Tok) : (⟨(joinS toks).toArray⟩ : ByteArray).size = (joinS toks).length := by
  show (joinS toks).toArray.size = _
  simp
set_option maxHeartbeats 1600000 in
theorem back_over {w : World} {B : Nat} (gl : Gl B w) (s : ByteArray) (hs : s.size ≤ 70000) {toks : List Tok} (hl : lexS s = .ok toks) (hsd : sidesL toks = false) (hj : 65536 < (joinS toks).length) : Calls Tryd.prog 3 #[.string s] w fun e w' => e = .returned (.bool true) ∧ Fr (fun _ => False) w w' := by
  have h1 : decide ((70000 : Int) < (s.size : Int)) = false := by simp; omega
  obtain ⟨hmv, hlen, hsz⟩ := lexS_toks hl
  have hjl := joinS_le hmv
  have hts : ∀ t ∈ toks, t.text.size ≤ 100000 := fun t ht => by have := (hmv t ht).sizes; omega
  have HTS := Lib.hid hts
  have HSD := Lib.hid hsd
  have hjz := joinB_size toks
  obtain ⟨jb, hjb⟩ : ∃ jb : ByteArray, jb = ⟨(joinS toks).toArray⟩ := ⟨_, rfl⟩
  have hlj : lexS jb = .error (1, 0) := lexS_long (by rw [hjb, hjz]; exact hj)
  have hjs : (65536 : Int) < (jb.size : Int) := by rw [hjb, hjz]; omega
  have HJB := Lib.hid hjb
  have hall : (joinS toks).length ≤ 140737488355328 := by omega
  have HALL := Lib.hid hall
  clear hsd hts hmv hjb hjz hjl hj hall
  go_enter Tryd.func3, Tryd.ntmps3
  go_wp2_with (fail)
  refine (Lex_to gl hl).mono ?_
  rintro e w1 ⟨lv, rfl, hr, F1⟩
  have gl1 : Gl B w1 := gl.keep F1 (fun _ h => h.elim)
  go_wp2_with (go_at_call 6; refine (num_k _ _).mono ?_; rintro e w' ⟨rfl, rfl⟩)
  refine (sides_k hr (by omega) HSD.out).mono ?_
  rintro e w2 ⟨rfl, F2⟩
  have gl2 : Gl B w2 := gl1.keep F2 (fun _ h => h.elim)
  go_wp2_with (fail)
  refine (Join_c (hr.keep F2) (by omega) HTS.out HALL.out).mono ?_
  rintro e w3 ⟨rfl, F3⟩
  rw [← HJB.out]
  have gl3 : Gl B w3 := gl2.keep F3 (fun _ h => h.elim)
  go_wp2_with (fail)
  refine (Lex_bad gl3 hlj).mono ?_
  rintro e w4 ⟨rfl, F4⟩
  have gl4 : Gl B w4 := gl3.keep F4 (fun _ h => h.elim)
  go_wp2_with (go_at_call 6; refine (num_k _ _).mono ?_; rintro e w' ⟨rfl, rfl⟩)
  refine (live_c gl4).mono ?_
  rintro e w5 ⟨rfl, F5⟩
  go_wp2_with (fail)
  go_ret
  exact ⟨rfl, (((F1.trans F2).trans F3).trans F4).trans F5⟩
set_option maxHeartbeats 1600000 in
theorem back_same {w : World} {B : Nat} (gl : Gl B w) (s : ByteArray) (hs : s.size ≤ 70000) {toks : List Tok} (hl : lexS s = .ok toks) (hsd : sidesL toks = false) (hj : (joinS toks).length ≤ 65536) : Calls Tryd.prog 3 #[.string s] w fun e w' => e = .returned (.bool true) ∧ Fr (fun _ => False) w w' := by
  have h1 : decide ((70000 : Int) < (s.size : Int)) = false := by simp; omega
  obtain ⟨hmv, hlen, hsz⟩ := lexS_toks hl
  obtain ⟨toks', hl', hlen', hal⟩ := lex_back hl hsd hj
  have hts : ∀ t ∈ toks, t.text.size ≤ 100000 := fun t ht => by have := (hmv t ht).sizes; omega
  have hvs : ∀ t ∈ toks, t.v.N.length ≤ 1000000 ∧ t.v.S.length ≤ 1000000 := fun t ht => by have := (hmv t ht).sizes; omega
  have HTS := Lib.hid hts
  have HVS := Lib.hid hvs
  have HSD := Lib.hid hsd
  have HAL := Lib.hid hal
  have HLN := Lib.hid hlen'
  have hjz := joinB_size toks
  obtain ⟨jb, hjb⟩ : ∃ jb : ByteArray, jb = ⟨(joinS toks).toArray⟩ := ⟨_, rfl⟩
  rw [← hjb] at hl'
  have hjs : decide ((65536 : Int) < (jb.size : Int)) = false := by rw [hjb, hjz]; simp; omega
  have HJB := Lib.hid hjb
  have hall : (joinS toks).length ≤ 140737488355328 := by omega
  have HALL := Lib.hid hall
  clear hsd hts hvs hmv hjb hjz hj hall hal hlen'
  go_enter Tryd.func3, Tryd.ntmps3
  go_wp2_with (fail)
  refine (Lex_to gl hl).mono ?_
  rintro e w1 ⟨lv, rfl, hr, F1⟩
  have gl1 : Gl B w1 := gl.keep F1 (fun _ h => h.elim)
  go_wp2_with (go_at_call 6; refine (num_k _ _).mono ?_; rintro e w' ⟨rfl, rfl⟩)
  refine (sides_k hr (by omega) HSD.out).mono ?_
  rintro e w2 ⟨rfl, F2⟩
  have gl2 : Gl B w2 := gl1.keep F2 (fun _ h => h.elim)
  go_wp2_with (fail)
  refine (Join_c (hr.keep F2) (by omega) HTS.out HALL.out).mono ?_
  rintro e w3 ⟨rfl, F3⟩
  rw [← HJB.out]
  have gl3 : Gl B w3 := gl2.keep F3 (fun _ h => h.elim)
  go_wp2_with (fail)
  refine (Lex_to gl3 hl').mono ?_
  rintro e w4 ⟨lm, rfl, hr', F4⟩
  have gl4 : Gl B w4 := gl3.keep F4 (fun _ h => h.elim)
  go_wp2_with (go_at_call 6; refine (num_k _ _).mono ?_; rintro e w' ⟨rfl, rfl⟩)
  refine (Same_eq (((hr.keep F2).keep F3).keep F4) hr' (by omega) HLN.out.symm HAL.out HVS.out).mono ?_
  rintro e w5 ⟨rfl, F5⟩
  have gl5 : Gl B w5 := gl4.keep F5 (fun _ h => h.elim)
  go_wp2_with (fail)
  refine (live_c gl5).mono ?_
  rintro e w6 ⟨rfl, F6⟩
  go_wp2_with (fail)
  go_ret
  exact ⟨rfl, ((((F1.trans F2).trans F3).trans F4).trans F5).trans F6⟩
theorem LexBack_c {w : World} {B : Nat} (gl : Gl B w) (s : ByteArray) : Calls Tryd.prog 3 #[.string s] w fun e w' => e = .returned (.bool true) ∧ Fr (fun _ => False) w w' := by
  by_cases hs : 70000 < s.size
  · exact back_long gl s hs
  · have hs' : s.size ≤ 70000 := by omega
    cases hl : lexS s with
    | error p =>
      obtain ⟨er, b⟩ := p
      exact back_bad gl s hs' hl
    | ok toks =>
      cases hsd : sidesL toks with
      | true => exact back_side gl s hs' hl hsd
      | false =>
        by_cases hj : (joinS toks).length ≤ 65536
        · exact back_same gl s hs' hl hsd hj
        · exact back_over gl s hs' hl hsd (by omega)
end Go.Proofs.YtnoplebjkbfedaaDoor
