/- Small functions of the lexer: which bytes are digits, letters and such; peek; run. -/
import Derived.Test.YtnoplebjkbfedaaDoorBase
import Derived.Test.YtnoplebjkbfedaaDoorSpec
import Derived.Test.YtnoplebjkbfedaaDoorChecked
namespace Go.Proofs.YtnoplebjkbfedaaDoor
open Go Go.RowKit
set_option maxRecDepth 100000

theorem digit_c (c : Int) (w : World) : Calls Tryd.prog 21 #[.int .u8 c] w fun e w' => e = .returned (.bool (dgI c)) ∧ w' = w := by
  by_cases h1 : 48 ≤ c <;> by_cases h2 : c ≤ 57 <;>
  · go_enter Tryd.func21, Tryd.ntmps21
    go_wp2
    go_ret
    simp [dgI, h1, h2]
theorem letter_c (c : Int) (w : World) : Calls Tryd.prog 19 #[.int .u8 c] w fun e w' => e = .returned (.bool (ltI c)) ∧ w' = w := by
  by_cases h1 : 97 ≤ c <;> by_cases h2 : c ≤ 122 <;> by_cases h3 : 65 ≤ c <;> by_cases h4 : c ≤ 90 <;> (try omega) <;>
  · go_enter Tryd.func19, Tryd.ntmps19
    go_wp2
    go_ret
    simp [ltI, h1, h2, h3, h4]
theorem inside_c (c : Int) (w : World) : Calls Tryd.prog 18 #[.int .u8 c] w fun e w' => e = .returned (.bool (inI c)) ∧ w' = w := by
  cases h1 : ltI c <;> cases h2 : dgI c <;> by_cases h3 : c = 95 <;>
  · go_enter Tryd.func18, Tryd.ntmps18
    go_wp2_with (first
      | (go_at_call 19; refine (letter_c _ _).mono ?_; rintro e w' ⟨rfl, rfl⟩)
      | (go_at_call 21; refine (digit_c _ _).mono ?_; rintro e w' ⟨rfl, rfl⟩))
    go_ret
    simp [inI, h1, h2, h3]
theorem long_c (c : Int) (w : World) : Calls Tryd.prog 32 #[.int .u8 c] w fun e w' => e = .returned (.bool (lnI c)) ∧ w' = w := by
  cases h1 : inI c <;> by_cases h3 : c = 46 <;>
  · go_enter Tryd.func32, Tryd.ntmps32
    go_wp2_with (go_at_call 18; refine (inside_c _ _).mono ?_; rintro e w' ⟨rfl, rfl⟩)
    go_ret
    simp [lnI, h1, h3]
theorem blank_c (c : Int) (w : World) : Calls Tryd.prog 13 #[.int .u8 c] w fun e w' => e = .returned (.bool (blI c)) ∧ w' = w := by
  by_cases h3 : c = 32 <;>
  · go_enter Tryd.func13, Tryd.ntmps13
    go_wp2
    go_ret
    simp [blI, h3]
theorem peek_c {w : World} {b : Nat} {s : ByteArray} {at_ n : Int} (h0 : w.cell? ⟨b, 0, none⟩ = some (.string s)) (h1 : w.cell? ⟨b, 1, none⟩ = some (.int .i64 at_))
    (ha : 0 ≤ at_) (hb : at_ ≤ 100000) (hn : 0 ≤ n) (hn2 : n ≤ 100000) (hs : s.size ≤ 100000) :
    Calls Tryd.prog 20 #[.pointer (some ⟨b, 0, none⟩), .int .i64 n] w fun e w' => e = .returned (.int .u8 (pkI s (at_ + n))) ∧ ∃ n, w' = w.drewN n := by
  by_cases hlt : (at_ + n).toNat < s.size
  · have hlt' : at_ + n < (s.size : Int) := by omega
    have hnn : 0 ≤ at_ + n := by omega
    go_enter Tryd.func20, Tryd.ntmps20
    go_wp2
    go_quiet (fail)
    go_wp2
    go_quiet (fail)
    go_wp2
    go_ret
    exact ⟨by simp [pkI, hlt], _, World.drewN_drewN ..⟩
  · have hlt' : ¬ at_ + n < (s.size : Int) := by omega
    go_enter Tryd.func20, Tryd.ntmps20
    go_wp2
    go_quiet (fail)
    go_wp2
    go_ret
    exact ⟨by simp [pkI, hlt], _, rfl⟩

/-- What a function value tells of each byte. -/
structure Tells (f : Nat) (p : Int → Bool) : Prop where
  run : ∀ (args : Array Value) (w : World), (callFunc f args).run Tryd.prog w = .ok (.enter f args) w
  calls : ∀ (c : Int) (w : World), Calls Tryd.prog f #[.int .u8 c] w fun e w' => e = .returned (.bool (p c)) ∧ w' = w
theorem tells_inside : Tells 18 inI := ⟨fun _ _ => by kernel_rfl, inside_c⟩
theorem tells_long : Tells 32 lnI := ⟨fun _ _ => by kernel_rfl, long_c⟩
theorem tells_blank : Tells 13 blI := ⟨fun _ _ => by kernel_rfl, blank_c⟩

theorem run_c (f : Nat) (p : Int → Bool) (hf : Tells f p) {w : World} {b : Nat} {s : ByteArray} {at_ : Nat} (h0 : w.cell? ⟨b, 0, none⟩ = some (.string s)) (h1 : w.cell? ⟨b, 1, none⟩ = some (.int .i64 at_))
    (hb : at_ ≤ s.size) (hs : s.size ≤ 100000) :
    Calls Tryd.prog 12 #[.pointer (some ⟨b, 0, none⟩), .func (.func f) #[] #[]] w fun e w' => e = .returned (.string (subS s at_ (runN p s at_))) ∧ ∃ n, w' = w.drewN n := by
  have hcf := hf.run
  go_enter Tryd.func12, Tryd.ntmps12
  go_wp2
  go_loopw [5] (fun i w' => ∃ k : Nat, k ≤ runN p s at_ ∧ i = .int .i64 k ∧ ∃ n, w' = w.drewN n) (fun i _ => s.size - (intOf i).toNat)
  case atStart => exact ⟨0, by omega, rfl, 0, rfl⟩
  case round =>
    obtain ⟨k, hk, rfl, nw, rfl⟩ := hrel
    have hrl := runN_le p s at_ hb
    by_cases hlt : k < runN p s at_
    · obtain ⟨hin, hp⟩ := runN_in p s at_ k hlt
      have hin' : (at_ : Int) + (k : Int) < (s.size : Int) := by omega
      have hn0 : 0 ≤ (at_ : Int) + (k : Int) := by omega
      have htn : ((at_ : Int) + (k : Int)).toNat = at_ + k := by omega
      have hmeas : s.size - (k + 1) < s.size - k := by omega
      have hk1 : k + 1 ≤ runN p s at_ := by omega
      have hwr : IntKind.i64.wrap ((at_ : Int) + (k : Int)) = (at_ : Int) + (k : Int) := IntWalk.i64_in _ (by omega)
      go_wp2
      go_quiet ((exact quiet_same_add (hf.calls _ _)))
      go_wp2
      exact ⟨⟨k + 1, hk1, by go_num, _, rfl⟩, by simp [intOf]; omega⟩
    · obtain rfl : k = runN p s at_ := by omega
      have hk0 : runN p s at_ ≤ 100000 := by omega
      have hn0 : 0 ≤ (at_ : Int) + (runN p s at_ : Int) := by omega
      have htn : ((at_ : Int) + (runN p s at_ : Int)).toNat = at_ + runN p s at_ := by omega
      have hle : (at_ : Int) + (runN p s at_ : Int) ≤ (s.size : Int) := by omega
      have hge : (at_ : Int) ≤ (at_ : Int) + (runN p s at_ : Int) := by omega
      by_cases hend : at_ + runN p s at_ < s.size
      · have hp := runN_end p s at_ hend
        have hin' : (at_ : Int) + (runN p s at_ : Int) < (s.size : Int) := by omega
        have hwr : IntKind.i64.wrap ((at_ : Int) + (runN p s at_ : Int)) = (at_ : Int) + (runN p s at_ : Int) := IntWalk.i64_in _ (by omega)
        go_wp2
        go_quiet ((exact quiet_same_add (hf.calls _ _)))
        go_wp2
        go_quiet (fail)
        go_wp2
        go_ret
        exact ⟨rfl, _, by rw [World.drewN_drewN, World.drewN_drewN]⟩
      · have hin' : decide ((at_ : Int) + (runN p s at_ : Int) < (s.size : Int)) = false := by simp; omega
        have hwr : IntKind.i64.wrap ((at_ : Int) + (runN p s at_ : Int)) = (at_ : Int) + (runN p s at_ : Int) := IntWalk.i64_in _ (by omega)
        go_wp2
        go_quiet ((exact quiet_same_add (hf.calls _ _)))
        go_wp2
        go_quiet (fail)
        go_wp2
        go_ret
        exact ⟨rfl, _, by rw [World.drewN_drewN, World.drewN_drewN]⟩
end Go.Proofs.YtnoplebjkbfedaaDoor
