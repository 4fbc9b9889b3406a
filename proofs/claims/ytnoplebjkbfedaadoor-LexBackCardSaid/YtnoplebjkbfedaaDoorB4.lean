/- text.Unquote. -/
import Derived.Test.YtnoplebjkbfedaaDoorB2
import Derived.Test.YtnoplebjkbfedaaDoorB3
namespace Go.Proofs.YtnoplebjkbfedaaDoor
open Go Go.RowKit
set_option linter.unusedSimpArgs false
set_option maxRecDepth 100000
def szOf : Value → Nat
  | .string s => s.size
  | _ => 0
theorem unqF_plain {m : Nat} {c : UInt8} {t : List UInt8} (h : c ≠ 92) : unqF (m + 1) (c :: t) = (unqF m t).map (c :: ·) := by
  rw [unqF.eq_def]
  exact if_pos h
theorem unqF_short {m : Nat} {c : UInt8} {t : List UInt8} (h : c = 92) (hl : t.length < 3) : unqF (m + 1) (c :: t) = none := by
  rw [unqF.eq_def]
  refine (if_neg (by simpa using h)).trans ?_
  match t, hl with
  | [], _ => rfl
  | [_], _ => rfl
  | [_, _], _ => rfl
theorem unqF_esc {m : Nat} {c x a b : UInt8} {r : List UInt8} {v : Nat} (h : c = 92) (hv : hexP 0 [a, b] = .ok v) : unqF (m + 1) (c :: x :: a :: b :: r) = (unqF m r).map (UInt8.ofNat v :: ·) := by
  rw [unqF.eq_def]
  refine (if_neg (by simpa using h)).trans ?_
  simp only [hv]
theorem unqF_bad {m : Nat} {c x a b : UInt8} {r : List UInt8} (h : c = 92) (hv : hexP 0 [a, b] = synE) : unqF (m + 1) (c :: x :: a :: b :: r) = none := by
  rw [unqF.eq_def]
  refine (if_neg (by simpa using h)).trans ?_
  simp only [hv]
  rfl
theorem hexP_lt2 {a b : UInt8} {v : Nat} (hv : hexP 0 [a, b] = .ok v) : v < 256 := by
  have hI : ∀ c d, hexI c = some d → d < 16 := by
    intro c d h
    unfold hexI at h
    split at h
    · injection h with h; omega
    · split at h
      · injection h with h; omega
      · split at h
        · injection h with h; omega
        · cases h
  unfold hexP at hv
  split at hv
  · exact absurd hv (synE_ne v)
  · rename_i d1 h1
    unfold hexP at hv
    split at hv
    · exact absurd hv (synE_ne v)
    · rename_i d2 h2
      unfold hexP at hv
      injection hv with hv
      have := hI _ _ h1
      have := hI _ _ h2
      omega
/-- What Unquote hands back. -/
def unqV (s : ByteArray) : Value := match unqL s.data.toList with
  | some b => .tuple #[.string ⟨b.toArray⟩, .bool true]
  | none => .tuple #[.string ⟨#[]⟩, .bool false]
theorem string_cons (u : ByteArray) (h : 0 < u.size) : u.data.toList = u[0]'h :: (u.extract 1 u.size).data.toList := by
  rw [Lib.extract_to_end]
  have h0 : 0 < u.data.toList.length := by simpa using h
  conv => lhs; rw [← List.drop_zero (l := u.data.toList), List.drop_eq_getElem_cons h0]
  rfl
theorem string_cons4 (u : ByteArray) (h : 0 < u.size) (h4 : 4 ≤ u.size) : ∃ x a b, u.data.toList = u[0]'h :: x :: a :: b :: (u.extract 4 u.size).data.toList ∧ (u.extract 2 4).data.toList = [a, b] ∧ (u.extract 2 4).size = 2 := by
  have hlen : u.data.toList.length = u.size := by rw [Lib.size_eq]
  have h0 := string_cons u h
  have he : (u.extract 2 4).data.toList = (u.data.toList.drop 2).take 2 := by rw [Lib.extract_data]
  rw [Lib.extract_to_end] at h0 ⊢
  match hl : u.data.toList, hlen with
  | c :: x :: a :: b :: r, _ =>
    rw [hl] at h0 he
    refine ⟨x, a, b, ?_, ?_, ?_⟩
    · simp at h0
      simp [← h0]
    · simpa using he
    · rw [ByteArray.size_extract]; omega
  | [], hh => simp at hh; omega
  | [_], hh => simp at hh; omega
  | [_, _], hh => simp at hh; omega
  | [_, _, _], hh => simp at hh; omega

set_option maxHeartbeats 3200000 in
theorem unquote_c {w : World} {B : Nat} (gl : Gl B w) (hB : B ≤ w.heap.size) (t : ByteArray) (hs : t.size ≤ 70000) :
    Calls Tryd.prog 39 #[.string t] w fun e w' => e = .returned (unqV t) ∧ Fr (fun _ => False) w w' := by
  by_cases h2 : t.size < 2
  · have hV : unqV t = .tuple #[.string ⟨#[]⟩, .bool false] := by
      unfold unqV unqL
      rw [if_pos (by rw [← Lib.size_eq]; exact h2)]
    rw [hV]
    clear hV
    go_enter Tryd.func39, Tryd.ntmps39
    go_wp2_with (fail)
    go_ret2
    exact ⟨rfl, Fr.refl _ _⟩
  · have ht1 : IntKind.i64.wrap ((t.size : Int) - 1) = (t.size : Int) - 1 := IntWalk.i64_in _ (by omega)
    have ht2 : ((t.size : Int) - 1).toNat = t.size - 1 := by omega
    have ht3 : (1 : Int) ≤ (t.size : Int) - 1 := by omega
    have ht4 : (t.size : Int) - 1 ≤ (t.size : Int) := by omega
    obtain ⟨inn, hinn⟩ : ∃ inn, inn = (t.extract 1 (t.size - 1)).data.toList := ⟨_, rfl⟩
    have hil : inn.length = t.size - 2 := by rw [hinn, ← Lib.size_eq, ByteArray.size_extract]; omega
    obtain ⟨i, hi, hz, hsz, hby⟩ := info_parts Tryd.infoU8
    have hV : Hid (unqV t = match unqF t.size inn with
        | some b => if quoteL b = t.data.toList then .tuple #[.string ⟨b.toArray⟩, .bool true] else .tuple #[.string ⟨#[]⟩, .bool false]
        | none => .tuple #[.string ⟨#[]⟩, .bool false]) := by
      refine Lib.hid ?_
      unfold unqV unqL
      rw [if_neg (by rw [← Lib.size_eq]; exact h2), hinn, Lib.extract_data, ← Lib.size_eq, show t.size - 1 - 1 = t.size - 2 from by omega]
      cases unqF t.size ((t.data.toList.drop 1).take (t.size - 2)) with
      | none => rfl
      | some b =>
        simp only []
        by_cases hb : quoteL b = t.data.toList <;> simp [hb]
    go_enter Tryd.func39, Tryd.ntmps39
    go_wp2_with (fail)
    go_loopw [4, 5] (fun bv tv w' => ∃ (n m : Nat) (pre : List UInt8) (u : ByteArray), tv = .string u ∧ u.size ≤ 70000 ∧ n + u.size ≤ 70000 ∧ w'.ownsRow w.heap.size 5 1 bv n (pre.map enc8) ∧ Fr (fun _ => False) w w' ∧ Hid (u.size < m ∧ unqF t.size inn = (unqF m u.data.toList).map (pre ++ ·))) (fun _ tv _ => szOf tv)
    case atStart =>
      exact ⟨0, t.size, [], _, rfl, by rw [ByteArray.size_extract]; omega, by rw [ByteArray.size_extract]; omega, World.ownsRow_nil _ _ _ _, Fr.refl _ _, Lib.hid ⟨by rw [ByteArray.size_extract]; omega, by rw [← hinn]; simp⟩⟩
    case round =>
      obtain ⟨n, m, pre, u, rfl, hu, hnu, own, F, HI⟩ := hrel
      have hFs := F.size
      have hml : n + 1 ≤ maxLen := by unfold maxLen; omega
      by_cases hu0 : u.size = 0
      · have hue : u.toList.isEmpty = true := by
          rw [← decide_eq_emptyBytes]
          refine decide_eq_true ?_
          have : u.data.toList = [] := List.eq_nil_of_length_eq_zero (by rw [← Lib.size_eq]; exact hu0)
          have h3 : u.data = #[] := Array.toList_inj.1 this
          show u = ⟨#[]⟩
          rw [← h3]
        have hcv := own_text own
        have hpl : n = pre.length := by have := own.1; simp at this; omega
        have hVV : Hid (unqV t = if quoteL pre = t.data.toList then .tuple #[.string ⟨pre.toArray⟩, .bool true] else .tuple #[.string ⟨#[]⟩, .bool false]) := by
          refine Lib.hid ?_
          obtain ⟨hm, hI⟩ := HI.out
          obtain ⟨m', rfl⟩ : ∃ m', m = m' + 1 := ⟨m - 1, by omega⟩
          have hnil : u.data.toList = [] := List.eq_nil_of_length_eq_zero (by rw [← Lib.size_eq]; exact hu0)
          rw [hV.out, hI, hnil]
          simp [unqF]
        go_wp2_with (fail)
        refine (quote_c ⟨pre.toArray⟩ (by show pre.toArray.size ≤ 100000; simp; omega)).mono ?_
        rintro e w2 ⟨rfl, F2⟩
        have hcv2 := own_text (F2.owns own (fun _ _ => id))
        by_cases hfin : quoteL pre = t.data.toList
        · have hqe : (quoteL pre == t.toList) = true := by rw [ByteArray.toList_eq]; simp [hfin]
          have hV1 : Hid (unqV t = .tuple #[.string ⟨pre.toArray⟩, .bool true]) := Lib.hid (by rw [hVV.out, if_pos hfin])
          clear hVV hfin
          go_wp2_with (fail)
          go_ret2
          exact ⟨hV1.out.symm ▸ rfl, F.trans F2⟩
        · have hqe : (quoteL pre == t.toList) = false := by rw [ByteArray.toList_eq]; simp [hfin]
          have hV1 : Hid (unqV t = .tuple #[.string ⟨#[]⟩, .bool false]) := Lib.hid (by rw [hVV.out, if_neg hfin])
          clear hVV hfin
          go_wp2_with (fail)
          go_ret2
          exact ⟨hV1.out.symm ▸ rfl, F.trans F2⟩
      · have hemp : u.toList.isEmpty = false := by
          rw [← decide_eq_emptyBytes]
          exact decide_eq_false (fun h => hu0 (by rw [h]; rfl))
        have hu1 : 0 < u.size := by omega
        have hun : (1 : Int) ≤ (u.size : Int) := by omega
        have hu1' : (0 : Int) < (u.size : Int) := by omega
        have hsz1 : (u.extract 1 u.size).size = u.size - 1 := by rw [ByteArray.size_extract]; omega
        have hsz4 : (u.extract 4 u.size).size = u.size - 4 := by rw [ByteArray.size_extract]; omega
        have hcons := string_cons u hu1
        by_cases hc : u[0]'hu1 = 92
        · have e1 : (((u[0]'hu1).toNat : Int) == 92) = true := by rw [hc]; decide
          have HC := Lib.hid hc
          clear hc
          by_cases h4 : u.size < 4
          · have hVV : unqV t = .tuple #[.string ⟨#[]⟩, .bool false] := by
              obtain ⟨hm, hI⟩ := HI.out
              obtain ⟨m', rfl⟩ : ∃ m', m = m' + 1 := ⟨m - 1, by omega⟩
              have hlen := congrArg List.length hcons
              rw [← Lib.size_eq] at hlen
              simp only [List.length_cons] at hlen
              rw [hV.out, hI, hcons, unqF_short HC.out (by omega)]
              rfl
            go_wp2_with (fail)
            go_ret2
            exact ⟨hVV.symm ▸ rfl, F⟩
          · obtain ⟨x, a, b, hl4, hl2, hs2⟩ := string_cons4 u hu1 (by omega)
            have h4' : (4 : Int) ≤ (u.size : Int) := by omega
            rcases hexP_cases 0 [a, b] with ⟨v, hv⟩ | hv
            · have hv256 := hexP_lt2 hv
              have hvw : IntKind.u8.wrap (v : Int) = (v : Int) := by rw [IntKind.wrap_u8]; omega
              have HVv := Lib.hid hv
              clear hv
              go_wp2_with (fail)
              refine (parse16_ok (u.extract 2 4) (by omega) (by omega) (v := v) (by rw [hl2]; exact HVv.out)).mono ?_
              rintro e w1 ⟨rfl, F1⟩
              have own1 := F1.owns own (fun _ _ => id)
              have F01 := F.trans F1
              go_wp2_with (fail)
              refine wp_region_mix (fun _ => True) 9 [(.p, 0), (.p, 1), (.p, 5), (.p, 6), (.w true, 2), (.w true, 3), (.w true, 4), (.p, 7), (.p, 8)] (by kernel_rfl) (by kernel_rfl) rfl (by kernel_rfl) ?_ ?_
              · trivial
              repeat (refine wpMix_look rfl rfl (fun K hK => ?_); go_simp; refine hK _ ?_; clear hK K)
              refine wpMix_loud rfl (fun K hK => ?_)
              go_wp2
              refine thenN_normal (hK _ _ (fun _ => trivial) ?_)
              clear hK K
              refine wpMix_loud rfl (fun K hK => ?_)
              go_wp2
              refine thenN_normal (hK _ _ (fun _ => trivial) ?_)
              clear hK K
              refine wpMix_loud rfl (fun K hK => ?_)
              refine wpList_append_own2 rfl (.tmp 39) (.tmp 42) 56 rfl w.heap.size 5 i _ 1 1 Tryd.underlying56 hi hz hsz hby rfl (by omega) _ n _ rfl (own1.alloc _) ⟨w1.heap.size, 0, none⟩ 1 1 (by omega) [Value.int .u8 (v : Int)] rfl rfl (fun j u hu => by rw [Addr.add_lit]; first | simpa using hu | (simp; exact hu)) (fun u hu => by simp at hu; subst hu; rfl) (by omega) (by omega) (Nat.le_trans F01.size (World.grownBy_alloc w1 _ none).size) ?_
              intro g' cap' w2 own2 hgr hsame
              have hq : pre.map enc8 ++ [Value.int .u8 (v : Int)] = (pre ++ [UInt8.ofNat v]).map enc8 := by simp [enc8]; omega
              rw [hq] at own2
              clear hq
              refine wpList_nil (thenN_normal (hK _ _ (fun _ => trivial) ?_))
              clear hK K
              repeat (refine wpMix_look rfl rfl (fun K hK => ?_); go_simp; refine hK _ ?_; clear hK K)
              refine wpMix_nil ?_
              go_wp2_with (fail)
              refine ⟨⟨n + 1, m - 1, pre ++ [UInt8.ofNat v], u.extract 4 u.size, rfl, by omega, by omega, own2, (F01.alloc _).drew.grown hgr (fun k hk hlt => by have := (own1.lt k hk).1; omega), Lib.hid ⟨by have := HI.out.1; omega, ?_⟩⟩, by simp [szOf]; omega⟩
              obtain ⟨hm, hI⟩ := HI.out
              obtain ⟨m', rfl⟩ : ∃ m', m = m' + 1 := ⟨m - 1, by omega⟩
              rw [hI, hl4, unqF_esc HC.out HVv.out, Option.map_map]
              simp only [Nat.add_sub_cancel]
              congr 1
              funext l
              simp
            · have hVV : unqV t = .tuple #[.string ⟨#[]⟩, .bool false] := by
                obtain ⟨hm, hI⟩ := HI.out
                obtain ⟨m', rfl⟩ : ∃ m', m = m' + 1 := ⟨m - 1, by omega⟩
                rw [hV.out, hI, hl4, unqF_bad HC.out hv]
                rfl
              have HVv := Lib.hid hv
              clear hv
              have glr : Gl B wr := gl.keep F (fun _ h => h.elim)
              go_wp2_with (fail)
              refine (parse16_bad glr (u.extract 2 4) (by omega) (by omega) (by rw [hl2]; exact HVv.out)).mono ?_
              rintro e w1 ⟨N, rfl, F1⟩
              go_wp2_with (fail)
              go_ret2
              exact ⟨hVV.symm ▸ rfl, F.trans F1⟩
        · have e1 : (((u[0]'hu1).toNat : Int) == 92) = false := by
            have : (u[0]'hu1).toNat ≠ 92 := fun h => hc (UInt8.toNat_inj.1 h)
            simp; omega
          have HC := Lib.hid hc
          clear hc
          go_wp2_with (fail)
          refine wp_region_mix (fun _ => True) 9 [(.p, 0), (.p, 1), (.p, 2), (.p, 5), (.p, 6), (.w true, 3), (.w true, 4), (.p, 7), (.p, 8)] (by kernel_rfl) (by kernel_rfl) rfl (by kernel_rfl) ?_ ?_
          · trivial
          repeat (refine wpMix_look rfl rfl (fun K hK => ?_); go_simp; refine hK _ ?_; clear hK K)
          refine wpMix_loud rfl (fun K hK => ?_)
          go_wp2
          refine thenN_normal (hK _ _ (fun _ => trivial) ?_)
          clear hK K
          refine wpMix_loud rfl (fun K hK => ?_)
          refine wpList_append_own2 rfl (.tmp 21) (.tmp 24) 56 rfl w.heap.size 5 i _ 1 1 Tryd.underlying56 hi hz hsz hby rfl (by omega) _ n _ rfl (own.alloc _) ⟨wr.heap.size, 0, none⟩ 1 1 (by omega) [Value.int .u8 ((u[0]'hu1).toNat : Int)] rfl rfl (fun j u hu => by rw [Addr.add_lit]; first | simpa using hu | (simp; exact hu)) (fun u hu => by simp at hu; subst hu; rfl) (by omega) (by omega) (Nat.le_trans hFs (World.grownBy_alloc wr _ none).size) ?_
          intro g' cap' w2 own2 hgr hsame
          have hq : pre.map enc8 ++ [Value.int .u8 ((u[0]'hu1).toNat : Int)] = (pre ++ [u[0]'hu1]).map enc8 := by simp [enc8]
          rw [hq] at own2
          clear hq
          refine wpList_nil (thenN_normal (hK _ _ (fun _ => trivial) ?_))
          clear hK K
          repeat (refine wpMix_look rfl rfl (fun K hK => ?_); go_simp; refine hK _ ?_; clear hK K)
          refine wpMix_nil ?_
          go_wp2_with (fail)
          refine ⟨⟨n + 1, m - 1, pre ++ [u[0]'hu1], u.extract 1 u.size, rfl, by omega, by omega, own2, (F.alloc _).drew.grown hgr (fun k hk hlt => by have := (own.lt k hk).1; omega), Lib.hid ⟨by have := HI.out.1; omega, ?_⟩⟩, by simp [szOf]; omega⟩
          obtain ⟨hm, hI⟩ := HI.out
          obtain ⟨m', rfl⟩ : ∃ m', m = m' + 1 := ⟨m - 1, by omega⟩
          rw [hI, hcons, unqF_plain HC.out, Option.map_map]
          simp only [Nat.add_sub_cancel]
          congr 1
          funext l
          simp
end Go.Proofs.YtnoplebjkbfedaaDoor
