/- The lexer's methods fail and negative; Word. -/
import Derived.Test.YtnoplebjkbfedaaDoorA2
namespace Go.Proofs.YtnoplebjkbfedaaDoor
open Go Go.RowKit
set_option maxRecDepth 100000

def failSt (st : LxSt) (e at_ : Int) : LxSt := if st.err = 0 then { st with err := e, bad := at_ } else st
theorem fail_c {w : World} {B g : Nat} {s : ByteArray} {st : LxSt} {lv : Value} (h : IsLx w B g s st lv) (e at_ : Int) :
    Calls Tryd.prog 15 #[.pointer (some ⟨g, 0, none⟩), .int .i64 e, .int .i64 at_] w fun e' w' =>
      e' = .returned (.tuple #[]) ∧ IsLx w' B g s (failSt st e at_) lv ∧ Fr (fun k => k = g) w w' := by
  obtain ⟨c0, c1, c2, c3, c4, cf⟩ := h.cells
  have f3 := cf 3 (by omega)
  have f4 := cf 4 (by omega)
  clear cf
  by_cases he : st.err = 0
  · have hz : (st.err == 0) = true := by simpa using he
    have HE := Lib.hid he
    clear he
    go_enter Tryd.func15, Tryd.ntmps15
    go_wp2
    go_end0
    have F : Fr (fun k => k = g) w ((w.setCell ⟨g, 3, none⟩ (.int .i64 e)).setCell ⟨g, 4, none⟩ (.int .i64 at_)) := ((Fr.refl _ w).set1 3 _).set1 4 _
    refine ⟨rfl, h.upd ?_ (by simp [failSt, HE.out]) F, F⟩
    rw [heap_cell5 (heap_cell5 h.2.1 3 _) 4 _]
    simp [failSt, HE.out]
  · have hz : (st.err == 0) = false := by simpa using he
    have HE := Lib.hid he
    clear he
    go_enter Tryd.func15, Tryd.ntmps15
    go_wp2
    go_end0
    exact ⟨rfl, by rw [failSt, if_neg HE.out]; exact h, Fr.refl _ _⟩
set_option maxHeartbeats 1600000 in
theorem negative_c {w : World} {B g : Nat} {s : ByteArray} {st : LxSt} {lv : Value} (h : IsLx w B g s st lv) (i : Nat) (hi : st.at_ = i) (hle : i ≤ s.size) (hs : s.size ≤ 70000)
    (hpre : i ≠ 0 → pkI s (i - 1) ≠ 32 → st.toks ≠ []) (hn : st.toks.length ≤ 1000000) :
    Calls Tryd.prog 22 #[.pointer (some ⟨g, 0, none⟩)] w fun e' w' => e' = .returned (.bool (negB s i st.toks)) ∧ Fr (fun _ => False) w w' := by
  obtain ⟨c0, c1, c2, c3, c4, cf⟩ := h.cells
  clear cf c3 c4
  have hlt := h.lt
  rw [hi] at c1
  by_cases h45 : pkI s i = 45
  case neg =>
    have hz : (pkI s i != 45) = true := by simpa using h45
    have hfin : negB s i st.toks = false := by simp [negB, h45]
    have HF := Lib.hid hfin
    clear hfin hpre
    go_enter Tryd.func22, Tryd.ntmps22
    go_wp2_with (go_at_call 20; refine (peek_c c0 c1 (by omega) (by omega) (by omega) (by omega) (by omega)).mono ?_; rintro e w' ⟨rfl, n1, rfl⟩)
    go_ret
    exact ⟨by rw [HF.out]; rfl, (Fr.refl _ _).drewN _⟩
  have hz : (pkI s i != 45) = false := by simpa using h45
  have H45 := Lib.hid h45
  clear h45
  by_cases hd : dgI (pkI s (i + 1)) = true
  case neg =>
    have hd' : dgI (pkI s (i + 1)) = false := by simpa using hd
    have hfin : negB s i st.toks = false := by simp [negB, hd']
    have HF := Lib.hid hfin
    clear hfin hpre hd
    go_enter Tryd.func22, Tryd.ntmps22
    go_wp2_with (first
      | (go_at_call 20; refine (peek_c (by exact c0) (by exact c1) (by omega) (by omega) (by omega) (by omega) (by omega)).mono ?_; rintro e w' ⟨rfl, n1, rfl⟩)
      | (go_at_call 21; refine (digit_c _ _).mono ?_; rintro e w' ⟨rfl, rfl⟩))
    go_ret
    exact ⟨by rw [HF.out]; rfl, (Fr.refl _ _).drewN _⟩
  by_cases h0 : i = 0
  case pos =>
    subst h0
    have hfin : negB s 0 st.toks = true := by simp [negB]; exact ⟨by simpa using H45.out, by simpa using hd⟩
    have HF := Lib.hid hfin
    have hd0 : dgI (pkI s 1) = true := by simpa using hd
    have hz0 : (pkI s 0 != 45) = false := by simpa using hz
    clear hfin hpre hd hz
    go_enter Tryd.func22, Tryd.ntmps22
    go_wp2_with (first
      | (go_at_call 20; refine (peek_c (by exact c0) (by exact c1) (by omega) (by omega) (by omega) (by omega) (by omega)).mono ?_; rintro e w' ⟨rfl, n1, rfl⟩)
      | (go_at_call 21; refine (digit_c _ _).mono ?_; rintro e w' ⟨rfl, rfl⟩))
    go_quiet (fail)
    go_wp2
    go_ret
    exact ⟨by rw [HF.out]; rfl, by simp only [World.drewN_drewN]; exact (Fr.refl _ _).drewN _⟩
  have hi1 : (1 : Int) ≤ i := by omega
  have hi6 : i - 1 < s.size := by omega
  have hi2 : 0 ≤ (i : Int) - 1 := by omega
  have hi3 : (i : Int) - 1 < s.size := by omega
  have hi4 : ((i : Int) == 0) = false := by simp; omega
  have hi5 : ((i : Int) - 1).toNat = i - 1 := by omega
  have hpk : pkI s (i - 1) = (s[i - 1]'hi6).toNat := by
    unfold pkI
    rw [dif_pos (by omega)]
    simp only [hi5]
  have HPK := Lib.hid hpk
  by_cases h32 : pkI s (i - 1) = 32
  case pos =>
    have hfin : negB s i st.toks = true := by simp [negB, hd, H45.out, h32]
    have HF := Lib.hid hfin
    have h32' : (((s[i - 1]'hi6).toNat : Int) == 32) = true := by rw [← hpk]; simp [h32]
    clear hfin hpre hpk h32 h0 hi5
    go_enter Tryd.func22, Tryd.ntmps22
    go_wp2_with (first
      | (go_at_call 20; refine (peek_c (by exact c0) (by exact c1) (by omega) (by omega) (by omega) (by omega) (by omega)).mono ?_; rintro e w' ⟨rfl, n1, rfl⟩)
      | (go_at_call 21; refine (digit_c _ _).mono ?_; rintro e w' ⟨rfl, rfl⟩))
    go_quiet (fail)
    go_wp2
    go_ret
    exact ⟨by rw [HF.out]; rfl, by simp only [World.drewN_drewN]; exact (Fr.refl _ _).drewN _⟩
  have h32' : (((s[i - 1]'hi6).toNat : Int) == 32) = false := by rw [← hpk]; simp [h32]
  have hne := hpre (by omega) h32
  obtain ⟨tk, t, htk⟩ : ∃ tk t, st.toks = tk ++ [t] := by
    rcases List.eq_nil_or_concat st.toks with h | ⟨tk, t, h⟩
    · exact absurd h hne
    · exact ⟨tk, t, by simpa using h⟩
  obtain ⟨lb, cap, na, nn, nc, sa, sn, sc, rfl, hcap, hlb, e0, e1, e2, e3, e4, e5, e6, e7⟩ := h.last htk
  have hneg : negB s i st.toks = negTok t := by simp [negB, hd, H45.out, h32, h0, htk]
  have HN := Lib.hid hneg
  have hlen : tk.length ≤ 1000000 := by have := congrArg List.length htk; simp at this; omega
  have hwr : IntKind.i64.wrap (tk.length : Int) = tk.length := IntWalk.i64_in _ (by omega)
  have hb1 : (tk.length : Int) < (tk.length : Int) + 1 := by omega
  have hb0 : (0 : Int) ≤ (tk.length : Int) := by omega
  clear hpre hpk h32 h0 hi5 hneg hne
  go_enter Tryd.func22, Tryd.ntmps22
  go_wp2_with (first
    | (go_at_call 20; refine (peek_c (by exact c0) (by exact c1) (by omega) (by omega) (by omega) (by omega) (by omega)).mono ?_; rintro e w' ⟨rfl, n1, rfl⟩)
    | (go_at_call 21; refine (digit_c _ _).mono ?_; rintro e w' ⟨rfl, rfl⟩))
  go_quiet (fail)
  go_wp2_with (fail)
  generalize hw5 : (w.drewN _).drewN nq = w5
  have hc5 : w.cell? = w5.cell? := by rw [← hw5]; rfl
  have hh5 : w.heap = w5.heap := by rw [← hw5]; rfl
  have F5 : Fr (fun _ => False) w w5 := by rw [← hw5]; exact ((Fr.refl _ _).drewN _).drewN _
  rw [hc5] at c2 e0 e1 e2 e3 e4 e5 e6 e7
  rw [hh5] at hlt hlb
  clear hw5 hc5 hh5 c0 c1 h
  refine wp_region_mix (fun w' => w'.cell? ⟨g, 2, none⟩ = some (.slice (some ⟨lb, 0, none⟩) (tk.length + 1) cap) ∧ w'.cell? ⟨lb, tk.length * 8, none⟩ = some (.int .i64 t.kind) ∧ w'.cell? ⟨lb, tk.length * 8 + 1, none⟩ = some (.int .i64 t.at_) ∧ w'.cell? ⟨lb, tk.length * 8 + 2, none⟩ = some (.int .i64 t.end_) ∧ w'.cell? ⟨lb, tk.length * 8 + 3, none⟩ = some (.string t.text) ∧ w'.cell? ⟨lb, tk.length * 8 + 4, none⟩ = some (.int .i64 t.v.T) ∧ w'.cell? ⟨lb, tk.length * 8 + 5, none⟩ = some (.slice na nn nc) ∧ w'.cell? ⟨lb, tk.length * 8 + 6, none⟩ = some (.slice sa sn sc) ∧ w'.cell? ⟨lb, tk.length * 8 + 7, none⟩ = some (.slice none 0 0)) 13 [(.p, 0), (.p, 1), (.p, 2), (.h [13, 3], 3), (.p, 4), (.p, 5), (.p, 6), (.h [13, 7], 7), (.p, 8), (.p, 9), (.p, 10), (.h [13, 11], 11), (.w true, 12), (.w false, 13)] (by kernel_rfl) (by kernel_rfl) rfl (by kernel_rfl) ?_ ?_
  · exact ⟨c2, e0, e1, e2, e3, e4, e5, e6, e7⟩
  repeat (refine wpMix_look rfl rfl (fun K hK => ?_); go_simp; refine hK _ ?_; clear hK K)
  refine wpMix_held rfl rfl (.slice (some ⟨lb, 0, none⟩) (tk.length + 1) cap) (fun w' hw' => ?_) (fun K hK => ?_)
  · obtain ⟨k2, -⟩ := hw'; go_simp
  go_simp; refine hK _ ?_; clear hK K
  repeat (refine wpMix_look rfl rfl (fun K hK => ?_); go_simp; refine hK _ ?_; clear hK K)
  refine wpMix_held rfl rfl (.slice (some ⟨lb, 0, none⟩) (tk.length + 1) cap) (fun w' hw' => ?_) (fun K hK => ?_)
  · obtain ⟨k2, -⟩ := hw'; go_simp
  go_simp; refine hK _ ?_; clear hK K
  repeat (refine wpMix_look rfl rfl (fun K hK => ?_); go_simp; refine hK _ ?_; clear hK K)
  refine wpMix_held rfl rfl (.agg #[.int .i64 t.kind, .int .i64 t.at_, .int .i64 t.end_, .string t.text, .int .i64 t.v.T, .slice na nn nc, .slice sa sn sc, .slice none 0 0]) (fun w' hw' => ?_) (fun K hK => ?_)
  · obtain ⟨k2, k0, k1, k3, k4, k5, k6, k7, k8⟩ := hw'; go_simp
  go_simp; refine hK _ ?_; clear hK K
  refine wpMix_loud rfl (fun K hK => ?_)
  go_wp2
  refine thenN_normal (hK _ _ ?_ ?_)
  · intro _; refine ⟨?_, ?_, ?_, ?_, ?_, ?_, ?_, ?_, ?_⟩ <;> (refine (World.cell?_alloc_past _ _ _ (by first | exact hlt | exact hlb)).trans ?_; assumption)
  clear hK K
  refine wpMix_loud rfl (fun K hK => ?_)
  go_wp2
  refine thenN_normal (hK _ _ (fun h => by cases h) (wpMix_nil ?_))
  clear hK K
  have FE : Fr (fun _ => False) w (w5.alloc (Obj.cells #[.int .i64 t.kind, .int .i64 t.at_, .int .i64 t.end_, .string t.text, .int .i64 t.v.T, .slice na nn nc, .slice sa sn sc, .slice none 0 0] 38)).drew := (F5.alloc _).drew
  by_cases k4 : t.kind = 4
  · have HF := Lib.hid (show negTok t = true by simp [negTok, k4])
    have k4' : (t.kind == 4) = true := by simp [k4]
    clear k4
    go_wp2
    go_ret
    exact ⟨by rw [HN.out, HF.out]; rfl, FE⟩
  have k4' : (t.kind == 4) = false := by simp [k4]
  by_cases k5 : t.kind = 5
  · have HF := Lib.hid (show negTok t = true by simp [negTok, k5])
    have k5' : (t.kind == 5) = true := by simp [k5]
    clear k5 k4
    go_wp2
    go_ret
    exact ⟨by rw [HN.out, HF.out]; rfl, FE⟩
  have k5' : (t.kind == 5) = false := by simp [k5]
  by_cases k6 : t.kind = 6
  case neg =>
    have HF := Lib.hid (show negTok t = false by simp [negTok, k4, k5, k6])
    have k6' : (t.kind == 6) = false := by simp [k6]
    clear k5 k4 k6
    go_wp2
    go_ret
    exact ⟨by rw [HN.out, HF.out]; rfl, FE⟩
  have k6' : (t.kind == 6) = true := by simp [k6]
  have HK : Hid (t.kind = 6) := k6
  have HS : Hid (negTok t = (!decide (t.text.toList = [41]) && !decide (t.text.toList = [93]) && !decide (t.text.toList = [125]))) := by
    show negTok t = _
    simp [negTok, k6, isBy, ByteArray.toList_eq]
  clear k4 k5 k6
  by_cases t1 : t.text.toList = [41]
  · go_wp2
    go_ret
    exact ⟨by rw [HN.out, HS.out, t1]; rfl, FE⟩
  by_cases t2 : t.text.toList = [93]
  · go_wp2
    go_ret
    exact ⟨by rw [HN.out, HS.out, t2]; rfl, FE⟩
  by_cases t3 : t.text.toList = [125]
  · go_wp2
    go_ret
    exact ⟨by rw [HN.out, HS.out, t3]; rfl, FE⟩
  · go_wp2
    go_ret
    exact ⟨by rw [HN.out, HS.out]; simp [t1, t2, t3], FE⟩
end Go.Proofs.YtnoplebjkbfedaaDoor
