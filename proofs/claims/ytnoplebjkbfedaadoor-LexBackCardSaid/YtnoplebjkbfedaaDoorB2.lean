/- strconv.ParseUint, the public one, at base 16 of one or two bytes; text.Quote. -/
import Derived.Test.YtnoplebjkbfedaaDoorB1
import Derived.Test.YtnoplebjkbfedaaDoorA6
namespace Go.Proofs.YtnoplebjkbfedaaDoor
open Go Go.RowKit
set_option linter.unusedSimpArgs false
set_option maxRecDepth 100000
theorem hexP_cases (a : Nat) (l : List UInt8) : (∃ v, hexP a l = .ok v) ∨ hexP a l = synE := by
  induction l generalizing a with
  | nil => exact .inl ⟨a, rfl⟩
  | cons c r ih =>
    unfold hexP
    split
    · exact .inr rfl
    · exact ih _
theorem parse16_ok {w : World} (t : ByteArray) (hne : t.size ≠ 0) (hmax : t.size ≤ 2) {v : Nat} (hv : hexP 0 t.data.toList = .ok v) :
    Calls Tryd.prog 53 #[.string t, .int .i64 16, .int .i64 8] w fun e w' => e = .returned (.tuple #[.int .u64 (v : Int), .nilIface]) ∧ Fr (fun _ => False) w w' := by
  have HV := Lib.hid hv
  clear hv
  go_enter Tryd.func53, Tryd.ntmps53
  go_wp2_with (fail)
  refine (parse16_in t hne hmax _).mono ?_
  rintro e w1 ⟨rfl, rfl⟩
  simp only [HV.out, Lib.uintTuple]
  go_wp2_with (fail)
  go_ret2
  exact ⟨rfl, Fr.bytesWorld _ _ _ _⟩
theorem parse16_bad {w : World} {B : Nat} (gl : Gl B w) (t : ByteArray) (hne : t.size ≠ 0) (hmax : t.size ≤ 2) (hv : hexP 0 t.data.toList = synE) :
    Calls Tryd.prog 53 #[.string t, .int .i64 16, .int .i64 8] w fun e w' => ∃ N, e = .returned (.tuple #[.int .u64 0, .iface 99 (.pointer (some ⟨N, 0, none⟩))]) ∧ Fr (fun _ => False) w w' := by
  have HV := Lib.hid hv
  clear hv
  go_enter Tryd.func53, Tryd.ntmps53
  go_wp2_with (fail)
  refine (parse16_in t hne hmax _).mono ?_
  rintro e w1 ⟨rfl, rfl⟩
  have F1 : Fr (fun _ => False) w _ := Fr.bytesWorld _ w 5 t
  have gl1 := gl.keep F1 (fun _ h => h.elim)
  generalize Lib.bytesWorld w 5 t = w1 at *
  obtain ⟨es, hes, hes'⟩ := gl1.esyn
  clear gl gl1
  simp only [HV.out, synE, Lib.parseUintB, if_true, Lib.uintTuple]
  go_wp2_with (fail)
  refine (Tryd.strconv_toError_syntax _ _ _ _ es _ (by omega) hes hes').mono ?_
  rintro e w2 ⟨N, rfl, hN, hN2, hw2⟩
  go_wp2_with (fail)
  go_ret2
  exact ⟨N, rfl, F1.trans (Fr.of_below hw2)⟩
end Go.Proofs.YtnoplebjkbfedaaDoor
