/- The lexer's function worth. -/
import Derived.Test.YtnoplebjkbfedaaDoorBase2
import Derived.Test.YtnoplebjkbfedaaDoorSpec3
import Derived.Test.YtnoplebjkbfedaaDoorShelf
import Derived.Lib.SmallJoins
namespace Go.Proofs.YtnoplebjkbfedaaDoor
open Go Go.RowKit
set_option maxRecDepth 100000

/-- The library's own variables hold what they may hold, ahead of block B. -/
structure Gl (B : Nat) (w : World) : Prop where
  l0 : 0 < B
  l1 : 3 < B
  l2 : 4 < B
  size : B ≤ w.heap.size
  max : ∃ m, w.cell? ⟨0, 0, none⟩ = some (.int .i64 m)
  esyn : ∃ ev, w.cell? ⟨3, 0, none⟩ = some ev ∧ (ev = .nilIface ∨ ∃ te pe, ev = .iface te pe)
  erng : ∃ ev, w.cell? ⟨4, 0, none⟩ = some ev ∧ (ev = .nilIface ∨ ∃ te pe, ev = .iface te pe)
theorem Gl.keep {B : Nat} {w w' : World} {S : Nat → Prop} (h : Gl B w) (hf : Fr S w w') (hS : ∀ k, S k → B ≤ k) : Gl B w' := by
  obtain ⟨l0, l1, l2, hz, ⟨m, hm⟩, ⟨e1, h1, h1'⟩, ⟨e2, h2, h2'⟩⟩ := h
  have k0 : ¬ S 0 := fun s => by have := hS _ s; omega
  have k1 : ¬ S 3 := fun s => by have := hS _ s; omega
  have k2 : ¬ S 4 := fun s => by have := hS _ s; omega
  exact ⟨l0, l1, l2, Nat.le_trans hz hf.size, ⟨m, hf.cell hm k0⟩, ⟨e1, hf.cell h1 k1, h1'⟩, ⟨e2, hf.cell h2 k2, h2'⟩⟩

theorem Fr.bytesWorld (S : Nat → Prop) (w : World) (e : TypeId) (s : ByteArray) : Fr S w (Lib.bytesWorld w e s) := Fr.of_below (Lib.bytesWorld_below w e s)

set_option maxHeartbeats 1600000 in
theorem worth_c {w : World} {B : Nat} (gl : Gl B w) (s : ByteArray) (hs : s.size ≤ 70000) :
    Calls Tryd.prog 37 #[.string s] w fun e' w' => e' = .returned (.tuple #[.int .i64 (worthV s.data.toList).1, .int .i64 (worthV s.data.toList).2.1, .bool (worthV s.data.toList).2.2]) ∧ Fr (fun _ => False) w w' := by
  have hl : s.toList = s.data.toList := ByteArray.toList_eq s
  by_cases n1 : s.toList = [48, 78]
  · have H := Lib.hid (show worthV s.data.toList = (2, nullI, true) by rw [← hl, n1]; rfl)
    clear hl
    go_enter Tryd.func37, Tryd.ntmps37
    go_wp2_with (fail)
    go_ret3
    exact ⟨by rw [H.out]; rfl, Fr.refl _ _⟩
  by_cases n2 : s.toList = [48, 78, 116]
  · have H := Lib.hid (show worthV s.data.toList = (4, nullI, true) by rw [← hl, n2]; rfl)
    clear hl
    go_enter Tryd.func37, Tryd.ntmps37
    go_wp2_with (fail)
    go_ret3
    exact ⟨by rw [H.out]; rfl, Fr.refl _ _⟩
  by_cases n3 : s.toList = [48, 78, 100]
  · have H := Lib.hid (show worthV s.data.toList = (5, nullI, true) by rw [← hl, n3]; rfl)
    clear hl
    go_enter Tryd.func37, Tryd.ntmps37
    go_wp2_with (fail)
    go_ret3
    exact ⟨by rw [H.out]; rfl, Fr.refl _ _⟩
  have HW := Lib.hid (worthS_cut (l := s.data.toList) (by rw [← hl]; exact n1) (by rw [← hl]; exact n2) (by rw [← hl]; exact n3))
  obtain ⟨ml, hml⟩ := gl.max
  have hx1 := Lib.trimSuffix_le s.data.toList [116]
  have hx2 := Lib.trimPrefix_le (Lib.trimSuffix s.data.toList [116]) [45]
  have hx3 : s.data.toList.length = s.size := rfl
  clear hl
  generalize hcc : Lib.cut (Lib.trimPrefix (Lib.trimSuffix s.data.toList [116]) [45]) [46] = cc at *
  have hcl := cut_le (Lib.trimPrefix (Lib.trimSuffix s.data.toList [116]) [45]) [46]
  rw [hcc] at hcl
  obtain ⟨c1, c2, cp⟩ := cc
  simp only at HW hcl
  have HCC := Lib.hid hcc
  clear hcc
  have m1 : (s.toList == [48, 78]) = false := by simpa using n1
  have m2 : (s.toList == [48, 78, 116]) = false := by simpa using n2
  have m3 : (s.toList == [48, 78, 100]) = false := by simpa using n3
  clear n1 n2 n3
  cases htm : Lib.hasSuffix s.data.toList [116]
  case false =>
    have e1 : Lib.trimSuffix s.data.toList [116] = s.data.toList := by simp [Lib.trimSuffix, htm]
    rw [htm, e1] at HW
    rw [e1] at HCC hcl hx2
    clear e1
    generalize hmi : Lib.hasPrefix s.data.toList [45] = minus at *
    go_enter Tryd.func37, Tryd.ntmps37
    go_wp2_with (first
      | (go_at_call 33; refine (Tryd.strings_CutSuffix _ _ _ (by omega)).mono ?_; rintro e w ⟨rfl, rfl⟩)
      | (go_at_call 51; refine (Tryd.strings_CutPrefix _ _ _).mono ?_; rintro e w ⟨rfl, rfl⟩))
    refine (Tryd.strings_Cut _ _ ml _ (by simp only [ByteArray.size, List.size_toArray]; omega) hml).mono ?_
    rintro e w2 ⟨rfl, nc, rfl⟩
    simp only [List.toList_toArray, HCC.out]
    clear m1 m2 m3
    cases cp
    case false =>
      by_cases hWe : c1 = []
      case pos =>
        have HV := Lib.hid (show worthV s.data.toList = (0, 0, false) by rw [worthV, HW.out]; simp [worthCut, worthFin, hWe])
        go_wp2_with (fail)
        go_ret3
        exact ⟨by rw [HV.out]; rfl, (Fr.refl _ _).drewN _⟩
      have hWe3 : c1.isEmpty = false := by simpa using hWe
      go_wp2_with (fail)
      have hsz : c1.length ≤ 70000 := by omega
      obtain ⟨Wl, hWl'⟩ : ∃ Wl, c1 = Wl := ⟨_, rfl⟩
      have hWl : (({ data := c1.toArray } : ByteArray)).data.toList = Wl := by simp [hWl']
      have hWs : (({ data := c1.toArray } : ByteArray)).size ≤ 70000 := by simpa [ByteArray.size] using hsz
      have hWe := Lib.hid hWe
      have HWl := Lib.hid hWl'
      clear hWl'
      generalize hWb : ({ data := c1.toArray } : ByteArray) = Wb at *
      refine (Tryd.strings_Trim_set _ _ _ (by omega) (by decide) (ascii_of_all (by decide))).mono ?_
      rintro e w3 ⟨rfl, hw3⟩
      have F3 : Fr (fun _ => False) w w3 := (Fr.of_below hw3 : Fr (fun _ => False) (w.drewN nc) w3).of_drewN
      clear hw3
      simp only [hWl]
      cases q1 : (Lib.trimS Wl [48, 49, 50, 51, 52, 53, 54, 55, 56, 57]).isEmpty
      case false =>
        have q1' : ¬ Lib.trimS Wl [48, 49, 50, 51, 52, 53, 54, 55, 56, 57] = [] := by simpa using q1
        have HV := Lib.hid (show worthV s.data.toList = (0, 0, false) by have qq : allDig Wl = false := q1; rw [← HWl.out] at qq; rw [worthV, HW.out]; simp [worthCut, worthFin, qq])
        go_wp2_with (fail)
        go_ret3
        exact ⟨by rw [HV.out]; rfl, F3⟩
      have q1' : Lib.trimS Wl [48, 49, 50, 51, 52, 53, 54, 55, 56, 57] = [] := by simpa using q1
      go_wp2_with (fail)
      refine (Tryd.strings_Trim_set _ _ _ (by simp only [ByteArray.size, List.size_toArray]; omega) (by decide) (ascii_of_all (by decide))).mono ?_
      rintro e w4 ⟨rfl, hw4⟩
      have F4 : Fr (fun _ => False) w w4 := F3.trans (Fr.of_below hw4)
      have gl4 := gl.keep F4 (fun _ h => h.elim)
      clear hw4
      simp only [List.toList_toArray]
      cases q2 : (Lib.trimS c2 [48, 49, 50, 51, 52, 53, 54, 55, 56, 57]).isEmpty
      case false =>
        have q2' : ¬ Lib.trimS c2 [48, 49, 50, 51, 52, 53, 54, 55, 56, 57] = [] := by simpa using q2
        have HV := Lib.hid (show worthV s.data.toList = (0, 0, false) by have qq : allDig c2 = false := q2; rw [worthV, HW.out]; simp [worthCut, worthFin, qq])
        go_wp2_with (fail)
        go_ret3
        exact ⟨by rw [HV.out]; rfl, F4⟩
      have q2' : Lib.trimS c2 [48, 49, 50, 51, 52, 53, 54, 55, 56, 57] = [] := by simpa using q2
      have Q1 : Hid (allDig c1 = true) := by rw [HWl.out]; exact q1
      have Q2 : Hid (allDig c2 = true) := q2
      have hq : worthS s.data.toList = (match Lib.parseUintB 64 Wl with | .ok u => if u ≤ 9223372036854775807 then some (2, if minus then -(u : Int) else (u : Int)) else none | _ => none) := by
        rw [HW.out, worthCut_no, worthFin_ok hWe.out Q1.out Q2.out (.inl rfl), HWl.out]; rfl
      have HQ := Lib.hid hq
      clear hq
      obtain ⟨es, hes, hes'⟩ := gl4.esyn
      obtain ⟨er, her, her'⟩ := gl4.erng
      clear gl4
      go_wp2_with (fail)
      clear q1 q1' q2 q2'
      rcases numEnd3 (Lib.parseUintB 64 Wl) with ⟨u, hp⟩ | hp | hp
      ·
        have HP := Lib.hid hp
        clear hp
        refine (Tryd.strconv_ParseUint_10_at64_ok _ (by omega) u (by rw [hWl]; exact HP.out) _).mono ?_
        rintro e w5 ⟨rfl, hw5⟩
        have F5 : Fr (fun _ => False) w w5 := F4.trans (by rcases hw5 with rfl | rfl; exact Fr.refl _ _; exact Fr.bytesWorld _ _ _ _)
        clear hw5
        by_cases hu : u ≤ 9223372036854775807
        case neg =>
          have hu' : (9223372036854775807 : Int) < u := by omega
          have HV := Lib.hid (show worthV s.data.toList = (0, 0, false) by rw [worthV, HQ.out, HP.out]; simp [hu])
          go_wp2_with (fail)
          go_ret3
          exact ⟨by rw [HV.out]; rfl, F5⟩
        have hu' : ¬ (9223372036854775807 : Int) < u := by omega
        cases minus
        case false =>
          have HV := Lib.hid (show worthV s.data.toList = (2, (u : Int), true) by rw [worthV, HQ.out, HP.out]; simp [hu])
          go_wp2_with (fail)
          go_ret3
          exact ⟨by rw [HV.out]; rfl, F5⟩
        case true =>
          have HV := Lib.hid (show worthV s.data.toList = (2, -(u : Int), true) by rw [worthV, HQ.out, HP.out]; simp [hu])
          go_wp2_with (fail)
          go_ret3
          exact ⟨by rw [HV.out]; rfl, F5⟩
      ·
        have HP := Lib.hid hp
        clear hp
        refine (Tryd.strconv_ParseUint_10_at64_syntax _ (by omega) (by rw [hWl]; exact HP.out) es _ hes hes').mono ?_
        rintro e w5 ⟨N, rfl, hN, hN2, hw5⟩
        have F5 : Fr (fun _ => False) w w5 := F4.trans (Fr.of_below hw5)
        clear hw5 hN2
        have HV := Lib.hid (show worthV s.data.toList = (0, 0, false) by rw [worthV, HQ.out, HP.out]; rfl)
        go_wp2_with (fail)
        go_ret3
        exact ⟨by rw [HV.out]; rfl, F5⟩
      ·
        have HP := Lib.hid hp
        clear hp
        refine (Tryd.strconv_ParseUint_10_at64_range _ (by omega) (by rw [hWl]; exact HP.out) er _ her her').mono ?_
        rintro e w5 ⟨N, rfl, hN, hN2, hw5⟩
        have F5 : Fr (fun _ => False) w w5 := F4.trans (Fr.of_below hw5)
        clear hw5 hN2
        have HV := Lib.hid (show worthV s.data.toList = (0, 0, false) by rw [worthV, HQ.out, HP.out])
        go_wp2_with (fail)
        go_ret3
        exact ⟨by rw [HV.out]; rfl, F5⟩
    case true =>
      by_cases hne : c2 = []
      case pos =>
        have HV := Lib.hid (show worthV s.data.toList = (0, 0, false) by rw [worthV, HW.out]; simp [worthCut, hne])
        go_wp2_with (fail)
        go_ret3
        exact ⟨by rw [HV.out]; rfl, (Fr.refl _ _).drewN _⟩
      have hne2 : c2.isEmpty = false := by simpa using hne
      by_cases hl4 : 4 < c2.length
      case pos =>
        have hl4' : (4 : Int) < c2.length := by omega
        have HV := Lib.hid (show worthV s.data.toList = (0, 0, false) by rw [worthV, HW.out]; simp [worthCut, hl4])
        go_wp2_with (fail)
        go_ret3
        exact ⟨by rw [HV.out]; rfl, (Fr.refl _ _).drewN _⟩
      have hl4' : ¬ (4 : Int) < c2.length := by omega
      have hle4 : c2.length ≤ 4 := by omega
      have hWd : (({ data := c1.toArray } : ByteArray) ++ (({ data := c2.toArray } : ByteArray) ++ ({ data := #[48, 48, 48, 48] } : ByteArray).extract c2.length 4)).data.toList = c1 ++ (c2 ++ ([48, 48, 48, 48] : List UInt8).drop c2.length) := by
        simp [Go.Joins.data_append, Lib.extract_data]
        rw [List.take_of_length_le (by simp)]
      have hWe : ¬ (({ data := c1.toArray } : ByteArray) ++ (({ data := c2.toArray } : ByteArray) ++ ({ data := #[48, 48, 48, 48] } : ByteArray).extract c2.length 4)).toList = [] := by
        rw [ByteArray.toList_eq, hWd]; simp [hne]
      have hWe3 : ((({ data := c1.toArray } : ByteArray) ++ (({ data := c2.toArray } : ByteArray) ++ ({ data := #[48, 48, 48, 48] } : ByteArray).extract c2.length 4)).toList == []) = false := by simpa using hWe
      have hWe4 : (({ data := c1.toArray } : ByteArray) ++ (({ data := c2.toArray } : ByteArray) ++ ({ data := #[48, 48, 48, 48] } : ByteArray).extract c2.length 4)).toList.isEmpty = false := by simpa using hWe
      go_wp2_with (fail)
      have hsz : (c1 ++ (c2 ++ ([48, 48, 48, 48] : List UInt8).drop c2.length)).length ≤ 70004 := by simp only [List.length_append, List.length_drop, List.length_cons, List.length_nil]; omega
      obtain ⟨Wl, hWl'⟩ : ∃ Wl, c1 ++ (c2 ++ ([48, 48, 48, 48] : List UInt8).drop c2.length) = Wl := ⟨_, rfl⟩
      have hWl : _ = Wl := hWd.trans hWl'
      have hWs : (({ data := c1.toArray } : ByteArray) ++ (({ data := c2.toArray } : ByteArray) ++ ({ data := #[48, 48, 48, 48] } : ByteArray).extract c2.length 4)).size ≤ 70004 := by rw [Lib.size_eq, hWd]; exact hsz
      clear hWd hWe hWe3 hWe4
      have hWe := Lib.hid hne
      have HWl := Lib.hid hWl'
      clear hWl'
      generalize hWb : (({ data := c1.toArray } : ByteArray) ++ (({ data := c2.toArray } : ByteArray) ++ ({ data := #[48, 48, 48, 48] } : ByteArray).extract c2.length 4)) = Wb at *
      refine (Tryd.strings_Trim_set _ _ _ (by omega) (by decide) (ascii_of_all (by decide))).mono ?_
      rintro e w3 ⟨rfl, hw3⟩
      have F3 : Fr (fun _ => False) w w3 := (Fr.of_below hw3 : Fr (fun _ => False) (w.drewN nc) w3).of_drewN
      clear hw3
      simp only [hWl]
      cases q1 : (Lib.trimS Wl [48, 49, 50, 51, 52, 53, 54, 55, 56, 57]).isEmpty
      case false =>
        have q1' : ¬ Lib.trimS Wl [48, 49, 50, 51, 52, 53, 54, 55, 56, 57] = [] := by simpa using q1
        have HV := Lib.hid (show worthV s.data.toList = (0, 0, false) by have qq : allDig Wl = false := q1; rw [← HWl.out] at qq; rw [worthV, HW.out]; simp [worthCut, worthFin, hne2, hle4, qq])
        go_wp2_with (fail)
        go_ret3
        exact ⟨by rw [HV.out]; rfl, F3⟩
      have q1' : Lib.trimS Wl [48, 49, 50, 51, 52, 53, 54, 55, 56, 57] = [] := by simpa using q1
      go_wp2_with (fail)
      refine (Tryd.strings_Trim_set _ _ _ (by simp only [ByteArray.size, List.size_toArray]; omega) (by decide) (ascii_of_all (by decide))).mono ?_
      rintro e w4 ⟨rfl, hw4⟩
      have F4 : Fr (fun _ => False) w w4 := F3.trans (Fr.of_below hw4)
      have gl4 := gl.keep F4 (fun _ h => h.elim)
      clear hw4
      simp only [List.toList_toArray]
      cases q2 : (Lib.trimS c2 [48, 49, 50, 51, 52, 53, 54, 55, 56, 57]).isEmpty
      case false =>
        have q2' : ¬ Lib.trimS c2 [48, 49, 50, 51, 52, 53, 54, 55, 56, 57] = [] := by simpa using q2
        have HV := Lib.hid (show worthV s.data.toList = (0, 0, false) by have qq : allDig c2 = false := q2; rw [worthV, HW.out]; simp [worthCut, worthFin, hne2, hle4, qq])
        go_wp2_with (fail)
        go_ret3
        exact ⟨by rw [HV.out]; rfl, F4⟩
      have q2' : Lib.trimS c2 [48, 49, 50, 51, 52, 53, 54, 55, 56, 57] = [] := by simpa using q2
      have Q1 : Hid (allDig (c1 ++ (c2 ++ ([48, 48, 48, 48] : List UInt8).drop c2.length)) = true) := by rw [HWl.out]; exact q1
      have Q2 : Hid (allDig c2 = true) := q2
      by_cases q3 : Wb.size = 4
      case pos =>
        have q3' : ((Wb.size : Int) == 4) = true := by simp [q3]
        have q4 : (c1 ++ (c2 ++ ([48, 48, 48, 48] : List UInt8).drop c2.length)).length = 4 := by rw [HWl.out, ← hWl]; exact q3
        have HV := Lib.hid (show worthV s.data.toList = (0, 0, false) by rw [worthV, HW.out]; simp only [worthCut, worthFin, q4]; simp [hne2, hle4])
        go_wp2_with (fail)
        go_ret3
        exact ⟨by rw [HV.out]; rfl, F4⟩
      have q3' : ((Wb.size : Int) == 4) = false := by simp; omega
      have Q4 : Hid (¬ (c1 ++ (c2 ++ ([48, 48, 48, 48] : List UInt8).drop c2.length)).length = 4) := by rw [HWl.out, ← hWl]; exact q3
      have hq : worthS s.data.toList = (match Lib.parseUintB 64 Wl with | .ok u => if u ≤ 9223372036854775807 then some (5, if minus then -(u : Int) else (u : Int)) else none | _ => none) := by
        rw [HW.out, worthCut_yes hWe.out hle4, worthFin_ok (by have := hWe.out; simp [this]) Q1.out Q2.out (.inr Q4.out), HWl.out]; rfl
      have HQ := Lib.hid hq
      clear hq
      obtain ⟨es, hes, hes'⟩ := gl4.esyn
      obtain ⟨er, her, her'⟩ := gl4.erng
      clear gl4
      go_wp2_with (fail)
      clear q1 q1' q2 q2'
      rcases numEnd3 (Lib.parseUintB 64 Wl) with ⟨u, hp⟩ | hp | hp
      ·
        have HP := Lib.hid hp
        clear hp
        refine (Tryd.strconv_ParseUint_10_at64_ok _ (by omega) u (by rw [hWl]; exact HP.out) _).mono ?_
        rintro e w5 ⟨rfl, hw5⟩
        have F5 : Fr (fun _ => False) w w5 := F4.trans (by rcases hw5 with rfl | rfl; exact Fr.refl _ _; exact Fr.bytesWorld _ _ _ _)
        clear hw5
        by_cases hu : u ≤ 9223372036854775807
        case neg =>
          have hu' : (9223372036854775807 : Int) < u := by omega
          have HV := Lib.hid (show worthV s.data.toList = (0, 0, false) by rw [worthV, HQ.out, HP.out]; simp [hu])
          go_wp2_with (fail)
          go_ret3
          exact ⟨by rw [HV.out]; rfl, F5⟩
        have hu' : ¬ (9223372036854775807 : Int) < u := by omega
        cases minus
        case false =>
          have HV := Lib.hid (show worthV s.data.toList = (5, (u : Int), true) by rw [worthV, HQ.out, HP.out]; simp [hu])
          go_wp2_with (fail)
          go_ret3
          exact ⟨by rw [HV.out]; rfl, F5⟩
        case true =>
          have HV := Lib.hid (show worthV s.data.toList = (5, -(u : Int), true) by rw [worthV, HQ.out, HP.out]; simp [hu])
          go_wp2_with (fail)
          go_ret3
          exact ⟨by rw [HV.out]; rfl, F5⟩
      ·
        have HP := Lib.hid hp
        clear hp
        refine (Tryd.strconv_ParseUint_10_at64_syntax _ (by omega) (by rw [hWl]; exact HP.out) es _ hes hes').mono ?_
        rintro e w5 ⟨N, rfl, hN, hN2, hw5⟩
        have F5 : Fr (fun _ => False) w w5 := F4.trans (Fr.of_below hw5)
        clear hw5 hN2
        have HV := Lib.hid (show worthV s.data.toList = (0, 0, false) by rw [worthV, HQ.out, HP.out]; rfl)
        go_wp2_with (fail)
        go_ret3
        exact ⟨by rw [HV.out]; rfl, F5⟩
      ·
        have HP := Lib.hid hp
        clear hp
        refine (Tryd.strconv_ParseUint_10_at64_range _ (by omega) (by rw [hWl]; exact HP.out) er _ her her').mono ?_
        rintro e w5 ⟨N, rfl, hN, hN2, hw5⟩
        have F5 : Fr (fun _ => False) w w5 := F4.trans (Fr.of_below hw5)
        clear hw5 hN2
        have HV := Lib.hid (show worthV s.data.toList = (0, 0, false) by rw [worthV, HQ.out, HP.out])
        go_wp2_with (fail)
        go_ret3
        exact ⟨by rw [HV.out]; rfl, F5⟩
  case true =>
    rw [htm] at HW
    generalize hmi : Lib.hasPrefix (Lib.trimSuffix s.data.toList [116]) [45] = minus at *
    go_enter Tryd.func37, Tryd.ntmps37
    go_wp2_with (first
      | (go_at_call 33; refine (Tryd.strings_CutSuffix _ _ _ (by omega)).mono ?_; rintro e w ⟨rfl, rfl⟩)
      | (go_at_call 51; refine (Tryd.strings_CutPrefix _ _ _).mono ?_; rintro e w ⟨rfl, rfl⟩))
    refine (Tryd.strings_Cut _ _ ml _ (by simp only [ByteArray.size, List.size_toArray]; omega) hml).mono ?_
    rintro e w2 ⟨rfl, nc, rfl⟩
    simp only [List.toList_toArray, HCC.out]
    clear m1 m2 m3
    cases cp
    case false =>
      by_cases hWe : c1 = []
      case pos =>
        have HV := Lib.hid (show worthV s.data.toList = (0, 0, false) by rw [worthV, HW.out]; simp [worthCut, worthFin, hWe])
        go_wp2_with (fail)
        go_ret3
        exact ⟨by rw [HV.out]; rfl, (Fr.refl _ _).drewN _⟩
      have hWe3 : c1.isEmpty = false := by simpa using hWe
      go_wp2_with (fail)
      have hsz : c1.length ≤ 70000 := by omega
      obtain ⟨Wl, hWl'⟩ : ∃ Wl, c1 = Wl := ⟨_, rfl⟩
      have hWl : (({ data := c1.toArray } : ByteArray)).data.toList = Wl := by simp [hWl']
      have hWs : (({ data := c1.toArray } : ByteArray)).size ≤ 70000 := by simpa [ByteArray.size] using hsz
      have hWe := Lib.hid hWe
      have HWl := Lib.hid hWl'
      clear hWl'
      generalize hWb : ({ data := c1.toArray } : ByteArray) = Wb at *
      refine (Tryd.strings_Trim_set _ _ _ (by omega) (by decide) (ascii_of_all (by decide))).mono ?_
      rintro e w3 ⟨rfl, hw3⟩
      have F3 : Fr (fun _ => False) w w3 := (Fr.of_below hw3 : Fr (fun _ => False) (w.drewN nc) w3).of_drewN
      clear hw3
      simp only [hWl]
      cases q1 : (Lib.trimS Wl [48, 49, 50, 51, 52, 53, 54, 55, 56, 57]).isEmpty
      case false =>
        have q1' : ¬ Lib.trimS Wl [48, 49, 50, 51, 52, 53, 54, 55, 56, 57] = [] := by simpa using q1
        have HV := Lib.hid (show worthV s.data.toList = (0, 0, false) by have qq : allDig Wl = false := q1; rw [← HWl.out] at qq; rw [worthV, HW.out]; simp [worthCut, worthFin, qq])
        go_wp2_with (fail)
        go_ret3
        exact ⟨by rw [HV.out]; rfl, F3⟩
      have q1' : Lib.trimS Wl [48, 49, 50, 51, 52, 53, 54, 55, 56, 57] = [] := by simpa using q1
      go_wp2_with (fail)
      refine (Tryd.strings_Trim_set _ _ _ (by simp only [ByteArray.size, List.size_toArray]; omega) (by decide) (ascii_of_all (by decide))).mono ?_
      rintro e w4 ⟨rfl, hw4⟩
      have F4 : Fr (fun _ => False) w w4 := F3.trans (Fr.of_below hw4)
      have gl4 := gl.keep F4 (fun _ h => h.elim)
      clear hw4
      simp only [List.toList_toArray]
      cases q2 : (Lib.trimS c2 [48, 49, 50, 51, 52, 53, 54, 55, 56, 57]).isEmpty
      case false =>
        have q2' : ¬ Lib.trimS c2 [48, 49, 50, 51, 52, 53, 54, 55, 56, 57] = [] := by simpa using q2
        have HV := Lib.hid (show worthV s.data.toList = (0, 0, false) by have qq : allDig c2 = false := q2; rw [worthV, HW.out]; simp [worthCut, worthFin, qq])
        go_wp2_with (fail)
        go_ret3
        exact ⟨by rw [HV.out]; rfl, F4⟩
      have q2' : Lib.trimS c2 [48, 49, 50, 51, 52, 53, 54, 55, 56, 57] = [] := by simpa using q2
      have Q1 : Hid (allDig c1 = true) := by rw [HWl.out]; exact q1
      have Q2 : Hid (allDig c2 = true) := q2
      have hq : worthS s.data.toList = (match Lib.parseUintB 64 Wl with | .ok u => if u ≤ 9223372036854775807 then some (4, if minus then -(u : Int) else (u : Int)) else none | _ => none) := by
        rw [HW.out, worthCut_no, worthFin_ok hWe.out Q1.out Q2.out (.inl rfl), HWl.out]; rfl
      have HQ := Lib.hid hq
      clear hq
      obtain ⟨es, hes, hes'⟩ := gl4.esyn
      obtain ⟨er, her, her'⟩ := gl4.erng
      clear gl4
      go_wp2_with (fail)
      clear q1 q1' q2 q2'
      rcases numEnd3 (Lib.parseUintB 64 Wl) with ⟨u, hp⟩ | hp | hp
      ·
        have HP := Lib.hid hp
        clear hp
        refine (Tryd.strconv_ParseUint_10_at64_ok _ (by omega) u (by rw [hWl]; exact HP.out) _).mono ?_
        rintro e w5 ⟨rfl, hw5⟩
        have F5 : Fr (fun _ => False) w w5 := F4.trans (by rcases hw5 with rfl | rfl; exact Fr.refl _ _; exact Fr.bytesWorld _ _ _ _)
        clear hw5
        by_cases hu : u ≤ 9223372036854775807
        case neg =>
          have hu' : (9223372036854775807 : Int) < u := by omega
          have HV := Lib.hid (show worthV s.data.toList = (0, 0, false) by rw [worthV, HQ.out, HP.out]; simp [hu])
          go_wp2_with (fail)
          go_ret3
          exact ⟨by rw [HV.out]; rfl, F5⟩
        have hu' : ¬ (9223372036854775807 : Int) < u := by omega
        cases minus
        case false =>
          have HV := Lib.hid (show worthV s.data.toList = (4, (u : Int), true) by rw [worthV, HQ.out, HP.out]; simp [hu])
          go_wp2_with (fail)
          go_ret3
          exact ⟨by rw [HV.out]; rfl, F5⟩
        case true =>
          have HV := Lib.hid (show worthV s.data.toList = (4, -(u : Int), true) by rw [worthV, HQ.out, HP.out]; simp [hu])
          go_wp2_with (fail)
          go_ret3
          exact ⟨by rw [HV.out]; rfl, F5⟩
      ·
        have HP := Lib.hid hp
        clear hp
        refine (Tryd.strconv_ParseUint_10_at64_syntax _ (by omega) (by rw [hWl]; exact HP.out) es _ hes hes').mono ?_
        rintro e w5 ⟨N, rfl, hN, hN2, hw5⟩
        have F5 : Fr (fun _ => False) w w5 := F4.trans (Fr.of_below hw5)
        clear hw5 hN2
        have HV := Lib.hid (show worthV s.data.toList = (0, 0, false) by rw [worthV, HQ.out, HP.out]; rfl)
        go_wp2_with (fail)
        go_ret3
        exact ⟨by rw [HV.out]; rfl, F5⟩
      ·
        have HP := Lib.hid hp
        clear hp
        refine (Tryd.strconv_ParseUint_10_at64_range _ (by omega) (by rw [hWl]; exact HP.out) er _ her her').mono ?_
        rintro e w5 ⟨N, rfl, hN, hN2, hw5⟩
        have F5 : Fr (fun _ => False) w w5 := F4.trans (Fr.of_below hw5)
        clear hw5 hN2
        have HV := Lib.hid (show worthV s.data.toList = (0, 0, false) by rw [worthV, HQ.out, HP.out])
        go_wp2_with (fail)
        go_ret3
        exact ⟨by rw [HV.out]; rfl, F5⟩
    case true =>
      have HV := Lib.hid (show worthV s.data.toList = (0, 0, false) by rw [worthV, HW.out]; simp [worthCut])
      go_wp2_with (fail)
      go_ret3
      exact ⟨by rw [HV.out]; rfl, (Fr.refl _ _).drewN _⟩
end Go.Proofs.YtnoplebjkbfedaaDoor
