/- text.Quote. -/
import Derived.Test.YtnoplebjkbfedaaDoorBase2
import Derived.Test.YtnoplebjkbfedaaDoorSpec4
import Derived.Laws.OwnMore
import Derived.Laws.IdiomStrings
namespace Go.Proofs.YtnoplebjkbfedaaDoor
open Go Go.RowKit
set_option linter.unusedSimpArgs false
set_option maxRecDepth 100000
/-- A goal at which the walk stands still. -/
def Hold (p : Prop) : Prop := p
theorem hold {p : Prop} (h : Hold p) : p := h
theorem Hold.mk {p : Prop} (h : p) : Hold p := h
def enc8 (b : UInt8) : Value := .int .u8 b.toNat
theorem qByte_len (c : UInt8) : (qByte c).length ≤ 4 ∧ 1 ≤ (qByte c).length := by
  unfold qByte
  split <;> simp
theorem flatq_len : ∀ l : List UInt8, (l.flatMap qByte).length ≤ 4 * l.length
  | [] => by simp
  | c :: r => by
    have h1 := flatq_len r
    have h2 := (qByte_len c).1
    simp only [List.flatMap_cons, List.length_append, List.length_cons]
    omega
theorem Tryd.infoU8 : (Tryd.prog.info? 5).map (fun i => (i.zero, i.size, i.bytes)) = some (some (.int .u8 0), 1, 1) := by kernel_rfl
/-- The bytes of a row of the call's own, as a text. -/
theorem own_text {w : World} {base : Nat} {v : Value} {l : List UInt8} {n : Nat} (h : w.ownsRow base 5 1 v n (l.map enc8)) :
    (convert 56 9 v).run Tryd.prog w = .ok (.string ⟨l.toArray⟩) w := by
  have hn : n = l.length := by have := h.1; simp at this; omega
  rcases h.2 with ⟨rfl, h0⟩ | ⟨g, cap, cur, rfl, _⟩
  · have : l = [] := List.eq_nil_of_length_eq_zero (by omega)
    subst this
    rw [run_convert_bytes_string w _ _ 5 none 0 0 Tryd.underlying56 Tryd.underlying5 Tryd.underlying9]
    rfl
  · subst hn
    exact run_convert_bytes_back w _ _ 5 ⟨g, 0, none⟩ cap l Tryd.underlying56 Tryd.underlying5 Tryd.underlying9 (fun j hj => h.cells (g := g) rfl j _ (by simp [List.getElem?_map, List.getElem?_eq_getElem hj, enc8]))

theorem hexdig_at (x : Int) (n : Nat) (hx : x = n) (h : x < 16) : (⟨#[48, 49, 50, 51, 52, 53, 54, 55, 56, 57, 97, 98, 99, 100, 101, 102]⟩ : ByteArray)[x.toNat]'(by show x.toNat < 16; omega) = hexdig n := by
  subst hx
  have key : ∀ n : Fin 16, (⟨#[48, 49, 50, 51, 52, 53, 54, 55, 56, 57, 97, 98, 99, 100, 101, 102]⟩ : ByteArray)[n.val]'(by show n.val < 16; exact n.isLt) = hexdig n.val := by decide +kernel
  exact key ⟨n, by omega⟩
set_option maxHeartbeats 3200000 in
theorem quote_c {w : World} (t : ByteArray) (hs : t.size ≤ 100000) :
    Calls Tryd.prog 16 #[.string t] w fun e w' => e = .returned (.string ⟨(quoteL t.data.toList).toArray⟩) ∧ Fr (fun _ => False) w w' := by
  obtain ⟨bs, hL⟩ : ∃ bs, bs = t.data.toList := ⟨_, rfl⟩
  have hLn : bs.length = t.size := by rw [hL, Lib.size_eq]
  go_enter Tryd.func16, Tryd.ntmps16
  go_wp2_with (fail)
  go_loopw [3, 9] (fun bv i w' => ∃ (k n : Nat), k ≤ t.size ∧ i = .int .i64 k ∧ w'.ownsRow w.heap.size 5 1 bv n ((34 :: (bs.take k).flatMap qByte).map enc8) ∧ Fr (fun _ => False) w w') (fun _ i _ => t.size - (intOf i).toNat)
  case atStart => exact ⟨0, 1, by omega, rfl, by simpa [enc8] using World.ownsRow_lit (base := w.heap.size) (e := 5) (size := 1) w #[Value.int .u8 34] 1 (Nat.le_refl _) (by decide) rfl, (Fr.refl _ _).alloc _⟩
  case round =>
    obtain ⟨k, n, hk, rfl, own, F⟩ := hrel
    have hnl : n ≤ 4 * k + 1 := by
      have := own.1
      have h2 := flatq_len (bs.take k)
      simp at this h2
      omega
    obtain ⟨i, hi, hz, hsz, hby⟩ := info_parts Tryd.infoU8
    have hFs := F.size
    have hml : n + 4 ≤ maxLen := by unfold maxLen; omega
    by_cases hkn : k < t.size
    · obtain ⟨c, hc⟩ : ∃ c, c = t[k]'hkn := ⟨_, rfl⟩
      have htk : bs.take (k + 1) = bs.take k ++ [c] := by
        rw [List.take_succ_eq_append_getElem (by omega), hc]
        subst hL
        rfl
      have hc256 : c.toNat < 256 := c.toNat_lt
      cases hesc : escB c with
      | true =>
        have hE : (c.toNat < 32 ∨ (32 ≤ c.toNat ∧ 126 < c.toNat)) ∨ c.toNat = 34 ∨ c.toNat = 92 := by
          simp only [escB, Bool.or_eq_true, decide_eq_true_eq] at hesc
          omega
        rw [hc] at hE
        have hq : (34 :: (bs.take k).flatMap qByte).map enc8 ++ [Value.int .u8 92, .int .u8 120, .int .u8 ((hexdig ((t[k]'hkn).toNat / 16)).toNat : Int), .int .u8 ((hexdig ((t[k]'hkn).toNat % 16)).toNat : Int)] = (34 :: (bs.take (k + 1)).flatMap qByte).map enc8 := by
          rw [htk, List.flatMap_append]
          simp [qByte, hesc, enc8, hc]
          rw [← hc, hesc]
          simp [enc8]
        have hb256 : (t[k]'hkn).toNat < 256 := (t[k]'hkn).toNat_lt
        have hd1 : IntKind.u8.wrap (((t[k]'hkn).toNat : Int) / 16) = ((t[k]'hkn).toNat : Int) / 16 := by rw [IntKind.wrap_u8]; omega
        have hd2 : (((t[k]'hkn).toNat : Int)).tmod 16 = ((t[k]'hkn).toNat : Int) % 16 := Int.tmod_eq_emod_of_nonneg (by omega)
        have hd3 : 0 ≤ ((t[k]'hkn).toNat : Int) / 16 ∧ ((t[k]'hkn).toNat : Int) / 16 < 16 := by omega
        have hd4 : 0 ≤ ((t[k]'hkn).toNat : Int) % 16 ∧ ((t[k]'hkn).toNat : Int) % 16 < 16 := by omega
        have hd5 := hexdig_at (((t[k]'hkn).toNat : Int) / 16) ((t[k]'hkn).toNat / 16) (by omega) hd3.2
        have hd6 := hexdig_at (((t[k]'hkn).toNat : Int) % 16) ((t[k]'hkn).toNat % 16) (by omega) hd4.2
        have HQ := Lib.hid hq
        clear hq hesc
        rcases hE with (hE | hE) | hE | hE
        · have e1 : decide (((t[k]'hkn).toNat : Int) < 32) = true := by simp; omega
          go_wp2_with (fail)
          refine wp_region_mix (fun _ => True) 10 [(.p, 0), (.p, 1), (.p, 2), (.p, 3), (.p, 4), (.p, 5), (.p, 6), (.w true, 7), (.w true, 8), (.p, 9)] (by kernel_rfl) (by kernel_rfl) rfl (by kernel_rfl) ?_ ?_
          · trivial
          repeat (refine wpMix_look rfl rfl (fun K hK => ?_); go_simp; refine hK _ ?_; clear hK K)
          refine wpMix_loud rfl (fun K hK => ?_)
          go_wp2
          refine thenN_normal (hK _ _ (fun _ => trivial) ?_)
          clear hK K
          refine wpMix_loud rfl (fun K hK => ?_)
          refine wpList_append_own2 rfl (.tmp 29) (.tmp 36) 56 rfl w.heap.size 5 i _ 1 1 Tryd.underlying56 hi hz hsz hby rfl (by omega) _ n _ rfl (own.alloc _) ⟨wr.heap.size, 0, none⟩ 4 4 (by omega) [Value.int .u8 92, .int .u8 120, .int .u8 ((hexdig ((t[k]'hkn).toNat / 16)).toNat : Int), .int .u8 ((hexdig ((t[k]'hkn).toNat % 16)).toNat : Int)] rfl rfl (fun j u hu => by rw [Addr.add_lit]; first | simpa using hu | (simp; exact hu)) (fun u hu => by simp at hu; rcases hu with rfl | rfl | rfl | rfl <;> rfl) (by omega) (by omega) (Nat.le_trans hFs (World.grownBy_alloc wr _ none).size) ?_
          intro g' cap' w2 own2 hgr hsame
          rw [HQ.out] at own2
          refine wpList_nil (thenN_normal (hK _ _ (fun _ => trivial) ?_))
          clear hK K
          repeat (refine wpMix_look rfl rfl (fun K hK => ?_); go_simp; refine hK _ ?_; clear hK K)
          refine wpMix_nil ?_
          go_wp2_with (fail)
          exact ⟨⟨k + 1, n + 4, by omega, by go_num, own2, (F.alloc _).drew.grown hgr (fun k hk hlt => by have := (own.lt k hk).1; omega)⟩, by simp [intOf]; omega⟩
        · have e1 : decide (((t[k]'hkn).toNat : Int) < 32) = false := by simp; omega
          have e2 : decide ((126 : Int) < ((t[k]'hkn).toNat : Int)) = true := by simp; omega
          go_wp2_with (fail)
          refine wp_region_mix (fun _ => True) 10 [(.p, 0), (.p, 1), (.p, 2), (.p, 3), (.p, 4), (.p, 5), (.p, 6), (.w true, 7), (.w true, 8), (.p, 9)] (by kernel_rfl) (by kernel_rfl) rfl (by kernel_rfl) ?_ ?_
          · trivial
          repeat (refine wpMix_look rfl rfl (fun K hK => ?_); go_simp; refine hK _ ?_; clear hK K)
          refine wpMix_loud rfl (fun K hK => ?_)
          go_wp2
          refine thenN_normal (hK _ _ (fun _ => trivial) ?_)
          clear hK K
          refine wpMix_loud rfl (fun K hK => ?_)
          refine wpList_append_own2 rfl (.tmp 29) (.tmp 36) 56 rfl w.heap.size 5 i _ 1 1 Tryd.underlying56 hi hz hsz hby rfl (by omega) _ n _ rfl (own.alloc _) ⟨wr.heap.size, 0, none⟩ 4 4 (by omega) [Value.int .u8 92, .int .u8 120, .int .u8 ((hexdig ((t[k]'hkn).toNat / 16)).toNat : Int), .int .u8 ((hexdig ((t[k]'hkn).toNat % 16)).toNat : Int)] rfl rfl (fun j u hu => by rw [Addr.add_lit]; first | simpa using hu | (simp; exact hu)) (fun u hu => by simp at hu; rcases hu with rfl | rfl | rfl | rfl <;> rfl) (by omega) (by omega) (Nat.le_trans hFs (World.grownBy_alloc wr _ none).size) ?_
          intro g' cap' w2 own2 hgr hsame
          rw [HQ.out] at own2
          refine wpList_nil (thenN_normal (hK _ _ (fun _ => trivial) ?_))
          clear hK K
          repeat (refine wpMix_look rfl rfl (fun K hK => ?_); go_simp; refine hK _ ?_; clear hK K)
          refine wpMix_nil ?_
          go_wp2_with (fail)
          exact ⟨⟨k + 1, n + 4, by omega, by go_num, own2, (F.alloc _).drew.grown hgr (fun k hk hlt => by have := (own.lt k hk).1; omega)⟩, by simp [intOf]; omega⟩
        · have e1 : decide (((t[k]'hkn).toNat : Int) < 32) = false := by simp; omega
          have e2 : decide ((126 : Int) < ((t[k]'hkn).toNat : Int)) = false := by simp; omega
          have e3 : ((((t[k]'hkn).toNat : Int)) == 34) = true := by simp; omega
          have hw3 : IntKind.u8.wrap 2 = 2 := by decide
          have HQ3 : Hid ((34 :: (bs.take k).flatMap qByte).map enc8 ++ [Value.int .u8 92, .int .u8 120, .int .u8 50, .int .u8 50] = (34 :: (bs.take (k + 1)).flatMap qByte).map enc8) := by
            have := HQ.out
            rw [hE] at this
            exact Lib.hid this
          go_wp2_with (fail)
          refine wp_region_mix (fun _ => True) 10 [(.p, 0), (.p, 1), (.p, 2), (.p, 3), (.p, 4), (.p, 5), (.p, 6), (.w true, 7), (.w true, 8), (.p, 9)] (by kernel_rfl) (by kernel_rfl) rfl (by kernel_rfl) ?_ ?_
          · trivial
          repeat (refine wpMix_look rfl rfl (fun K hK => ?_); go_simp; refine hK _ ?_; clear hK K)
          refine wpMix_loud rfl (fun K hK => ?_)
          go_wp2
          refine thenN_normal (hK _ _ (fun _ => trivial) ?_)
          clear hK K
          refine wpMix_loud rfl (fun K hK => ?_)
          refine wpList_append_own2 rfl (.tmp 29) (.tmp 36) 56 rfl w.heap.size 5 i _ 1 1 Tryd.underlying56 hi hz hsz hby rfl (by omega) _ n _ rfl (own.alloc _) ⟨wr.heap.size, 0, none⟩ 4 4 (by omega) [Value.int .u8 92, .int .u8 120, .int .u8 50, .int .u8 50] rfl rfl (fun j u hu => by rw [Addr.add_lit]; first | simpa using hu | (simp; exact hu)) (fun u hu => by simp at hu; rcases hu with rfl | rfl | rfl | rfl <;> rfl) (by omega) (by omega) (Nat.le_trans hFs (World.grownBy_alloc wr _ none).size) ?_
          intro g' cap' w2 own2 hgr hsame
          rw [HQ3.out] at own2
          refine wpList_nil (thenN_normal (hK _ _ (fun _ => trivial) ?_))
          clear hK K
          repeat (refine wpMix_look rfl rfl (fun K hK => ?_); go_simp; refine hK _ ?_; clear hK K)
          refine wpMix_nil ?_
          go_wp2_with (fail)
          exact ⟨⟨k + 1, n + 4, by omega, by go_num, own2, (F.alloc _).drew.grown hgr (fun k hk hlt => by have := (own.lt k hk).1; omega)⟩, by simp [intOf]; omega⟩
        · have e1 : decide (((t[k]'hkn).toNat : Int) < 32) = false := by simp; omega
          have e2 : decide ((126 : Int) < ((t[k]'hkn).toNat : Int)) = false := by simp; omega
          have e3 : ((((t[k]'hkn).toNat : Int)) == 34) = false := by simp; omega
          have e4 : ((((t[k]'hkn).toNat : Int)) == 92) = true := by simp; omega
          have hw3 : IntKind.u8.wrap 5 = 5 := by decide
          have HQ3 : Hid ((34 :: (bs.take k).flatMap qByte).map enc8 ++ [Value.int .u8 92, .int .u8 120, .int .u8 53, .int .u8 99] = (34 :: (bs.take (k + 1)).flatMap qByte).map enc8) := by
            have := HQ.out
            rw [hE] at this
            exact Lib.hid this
          go_wp2_with (fail)
          refine wp_region_mix (fun _ => True) 10 [(.p, 0), (.p, 1), (.p, 2), (.p, 3), (.p, 4), (.p, 5), (.p, 6), (.w true, 7), (.w true, 8), (.p, 9)] (by kernel_rfl) (by kernel_rfl) rfl (by kernel_rfl) ?_ ?_
          · trivial
          repeat (refine wpMix_look rfl rfl (fun K hK => ?_); go_simp; refine hK _ ?_; clear hK K)
          refine wpMix_loud rfl (fun K hK => ?_)
          go_wp2
          refine thenN_normal (hK _ _ (fun _ => trivial) ?_)
          clear hK K
          refine wpMix_loud rfl (fun K hK => ?_)
          refine wpList_append_own2 rfl (.tmp 29) (.tmp 36) 56 rfl w.heap.size 5 i _ 1 1 Tryd.underlying56 hi hz hsz hby rfl (by omega) _ n _ rfl (own.alloc _) ⟨wr.heap.size, 0, none⟩ 4 4 (by omega) [Value.int .u8 92, .int .u8 120, .int .u8 53, .int .u8 99] rfl rfl (fun j u hu => by rw [Addr.add_lit]; first | simpa using hu | (simp; exact hu)) (fun u hu => by simp at hu; rcases hu with rfl | rfl | rfl | rfl <;> rfl) (by omega) (by omega) (Nat.le_trans hFs (World.grownBy_alloc wr _ none).size) ?_
          intro g' cap' w2 own2 hgr hsame
          rw [HQ3.out] at own2
          refine wpList_nil (thenN_normal (hK _ _ (fun _ => trivial) ?_))
          clear hK K
          repeat (refine wpMix_look rfl rfl (fun K hK => ?_); go_simp; refine hK _ ?_; clear hK K)
          refine wpMix_nil ?_
          go_wp2_with (fail)
          exact ⟨⟨k + 1, n + 4, by omega, by go_num, own2, (F.alloc _).drew.grown hgr (fun k hk hlt => by have := (own.lt k hk).1; omega)⟩, by simp [intOf]; omega⟩
      | false =>
        have hE := hesc
        simp only [escB, Bool.or_eq_false_iff, decide_eq_false_iff_not] at hE
        rw [hc] at hE
        have e1 : decide (((t[k]'hkn).toNat : Int) < 32) = false := by simp; omega
        have e2 : decide ((126 : Int) < ((t[k]'hkn).toNat : Int)) = false := by simp; omega
        have e3 : ((((t[k]'hkn).toNat : Int)) == 34) = false := by simp; omega
        have e4 : ((((t[k]'hkn).toNat : Int)) == 92) = false := by simp; omega
        go_wp2_with (at_builtin; refine hold ?_)
        refine Hold.mk ?_
        refine wpList_append_own2 rfl (.tmp 38) (.tmp 40) 56 rfl w.heap.size 5 i _ 1 1 Tryd.underlying56 hi hz hsz hby rfl (by omega) _ n _ rfl (own.alloc _) ⟨wr.heap.size, 0, none⟩ 1 1 (by omega) [.int .u8 ((t[k]'hkn).toNat : Int)] rfl rfl (cell_one_new _ _ _) (fun u hu => by simp at hu; subst hu; rfl) (by omega) (by omega) (Nat.le_trans hFs (World.grownBy_alloc wr _ none).size) ?_
        intro g' cap' w2 own2 hgr hsame
        have hq : (34 :: (bs.take k).flatMap qByte).map enc8 ++ [Value.int .u8 ((t[k]'hkn).toNat : Int)] = (34 :: (bs.take (k + 1)).flatMap qByte).map enc8 := by
          rw [htk, List.flatMap_append]
          simp [qByte, hesc, enc8, hc]
          rw [← hc, hesc]
          simp [enc8]
        rw [hq] at own2
        go_wp2_with (fail)
        exact ⟨⟨k + 1, n + 1, by omega, by go_num, own2, (F.alloc _).grown hgr (fun k hk hlt => by have := (own.lt k hk).1; omega)⟩, by simp [intOf]; omega⟩
    · obtain rfl : k = t.size := by omega
      go_wp2_with (at_builtin; refine hold ?_)
      refine Hold.mk ?_
      refine wpList_append_own2 rfl (.tmp 43) (.tmp 44) 56 rfl w.heap.size 5 i _ 1 1 Tryd.underlying56 hi hz hsz hby rfl (by omega) _ n _ rfl (own.alloc _) ⟨wr.heap.size, 0, none⟩ 1 1 (by omega) [.int .u8 34] rfl rfl (cell_one_new _ _ _) (fun u hu => by simp at hu; subst hu; rfl) (by omega) (by omega) (Nat.le_trans hFs (World.grownBy_alloc wr _ none).size) ?_
      intro g' cap' w2 own2 hgr hsame
      have hq : (34 :: (bs.take t.size).flatMap qByte).map enc8 ++ [Value.int .u8 34] = (quoteL bs).map enc8 := by
        rw [← hLn, List.take_length]
        simp [quoteL, enc8]
      rw [hq] at own2
      have hcv := own_text own2
      go_wp2_with (fail)
      go_ret
      exact ⟨rfl, (F.alloc _).grown hgr (fun k hk hlt => by have := (own.lt k hk).1; omega)⟩
end Go.Proofs.YtnoplebjkbfedaaDoor
