/- The lexer's method add. -/
import Derived.Test.YtnoplebjkbfedaaDoorBase
import Derived.Test.YtnoplebjkbfedaaDoorChecked
namespace Go.Proofs.YtnoplebjkbfedaaDoor
open Go Go.RowKit
set_option maxRecDepth 100000
theorem Tryd.infoTok : (Tryd.prog.info? 38).map (fun i => (i.zero, i.size, i.bytes)) = some (some (.agg #[.int .i64 0, .int .i64 0, .int .i64 0, .string ⟨#[]⟩, .int .i64 0, .slice none 0 0, .slice none 0 0, .slice none 0 0]), 8, 120) := by kernel_rfl

theorem add_c {w : World} {B g : Nat} {s : ByteArray} {st : LxSt} {lv : Value} (h : IsLx w B g s st lv) (kind a0 : Int) (text : ByteArray) (v : FV) (cs : List Value)
    (hv : VCells w (fun b => b < w.heap.size ∧ b ≠ g ∧ some b ≠ lv.ownBlock) v cs) (hn : st.toks.length ≤ 1000000) :
    Calls Tryd.prog 24 #[.pointer (some ⟨g, 0, none⟩), .int .i64 kind, .int .i64 a0, .string text, .agg cs.toArray] w fun e w' =>
      e = .returned (.tuple #[]) ∧ ∃ lv', IsLx w' B g s { st with toks := st.toks ++ [⟨kind, a0, st.at_, text, v⟩] } lv' ∧ Fr (LxS g lv) w w' := by
  obtain ⟨c0, c1, c2, c3, c4, cf⟩ := h.cells
  obtain ⟨nv, sv, rfl, hN, hS⟩ := hv
  have hlt := h.lt
  go_enter Tryd.func24, Tryd.ntmps24
  go_wp2
  refine wp_region_mix (fun w' => w'.cell? ⟨g, 2, none⟩ = some lv) 16 [(.p, 0), (.p, 1), (.p, 2), (.p, 3), (.h [16, 4], 4), (.p, 5), (.p, 6), (.p, 7), (.p, 8), (.p, 9), (.p, 10), (.l [15, 14, 11], 11), (.p, 12), (.l [15, 14, 13], 13), (.p, 14), (.w true, 15), (.w false, 16), (.p, 17), (.p, 18), (.w false, 19)] (by kernel_rfl) (by kernel_rfl) rfl (by kernel_rfl) ?_ ?_
  · go_simp
  repeat (refine wpMix_look rfl rfl (fun K hK => ?_); go_simp; refine hK _ ?_; clear hK K)
  refine wpMix_held rfl rfl lv (fun w' hw' => ?_) (fun K hK => ?_)
  · go_simp
  go_simp; refine hK _ ?_; clear hK K
  repeat (refine wpMix_look rfl rfl (fun K hK => ?_); go_simp; refine hK _ ?_; clear hK K)
  refine wpMix_loud rfl (fun K hK => ?_)
  go_wp2
  refine thenN_normal (hK _ _ ?_ ?_)
  · intro _; go_simp
  clear hK K
  generalize hw1 : ((w.alloc _).alloc _).drew = w1
  have F1 : Fr (fun _ => False) w w1 := by rw [← hw1]; exact (((Fr.refl _ _).alloc _).alloc _).drew
  have hnew : ∀ (j : Nat) u, [Value.int .i64 kind, .int .i64 a0, .int .i64 st.at_, .string text, .int .i64 v.T, nv, sv, .slice none 0 0][j]? = some u → w1.cell? ((⟨w.heap.size + 1, 0, none⟩ : Addr).add j) = some u := by
    intro j u hu
    rw [← hw1, Addr.add_lit]
    simpa using hu
  clear hw1
  obtain ⟨hB, hg, hne, ts, hts, hown, htok⟩ := h
  have hg1 : w1.heap[g]? = _ := (F1.block g hlt id).trans hg
  have own1 := F1.owns hown (fun _ _ => id)
  have htok1 : ∀ p ∈ ts, TokCells w1 (fun b => b < w.heap.size ∧ b ≠ g ∧ some b ≠ lv.ownBlock) p.1 p.2 := fun p hp => (htok p hp).kept (fun b hb => F1.block b hb.1 id) (fun _ h => h)
  have hcs1 : TokCells w1 (fun b => b < w.heap.size ∧ b ≠ g ∧ some b ≠ lv.ownBlock) ⟨kind, a0, st.at_, text, v⟩ [Value.int .i64 kind, .int .i64 a0, .int .i64 st.at_, .string text, .int .i64 v.T, nv, sv, .slice none 0 0] :=
    ⟨_, ⟨nv, sv, rfl, hN.kept (fun b hb => F1.block b hb.1 id) (fun _ h => h), hS.kept (fun b hb => F1.block b hb.1 id) (fun _ h => h)⟩, rfl⟩
  obtain ⟨i, hi, hz, hsz, hby⟩ := info_parts Tryd.infoTok
  have hlen : ts.length ≤ 1000000 := by have := congrArg List.length hts; simp at this; omega
  refine wpMix_loud rfl (fun K hK => ?_)
  refine wpList_append_own2 rfl (.tmp 14) (.tmp 25) 23 rfl B 38 i _ 8 120 Tryd.underlying23 hi hz hsz hby rfl (by omega) lv ts.length _ rfl own1 ⟨w.heap.size + 1, 0, none⟩ 1 1 (by omega) _ rfl rfl hnew hcs1.oneCell (by unfold maxLen; omega) (by omega) (by have := F1.size; omega) ?_
  intro g' cap' w2 own2 hgr hsame
  refine wpList_nil (thenN_normal (hK _ _ (fun h => by cases h) ?_))
  clear hK K
  repeat (refine wpMix_look rfl rfl (fun K hK => ?_); go_simp; refine hK _ ?_; clear hK K)
  refine wpMix_loud rfl (fun K hK => ?_)
  have hg2 : w2.heap[g]? = _ := (hgr.block g (by have := F1.size; omega) (Ne.symm hne)).trans hg1
  have hc2 : w2.cell? ⟨g, 2, none⟩ = some lv := by simp [World.cell?, hg2]
  have hf2 : w2.frozen? ⟨g, 2, none⟩ = false := by simp [World.frozen?, hg2]
  go_wp2
  refine thenN_normal (hK _ _ (fun h => by cases h) (wpMix_nil ?_))
  clear hK K
  go_wp2
  go_end0
  have hb' := own2.lt g' rfl
  have hne2 : g' ≠ g := by
    rintro rfl
    rcases hsame with h | h
    · exact hne h.symm
    · have := F1.size; omega
  have hold : ∀ k, lv.ownBlock = some k → k < w.heap.size := fun k hk => own_lt' hown k hk
  have F2 : Fr (LxS g lv) w w2 := (F1.mono (fun _ h => h.elim)).grown hgr (fun k hk _ => .inr hk.symm)
  have F3 : Fr (LxS g lv) w _ := F2.setCell (p := ⟨g, 2, none⟩) (fun _ => .inl rfl) (.slice (some ⟨g', 0, none⟩) (ts.length + 1) cap')
  refine ⟨rfl, _, ⟨hB, heap_cell5 hg2 2 _, by simpa [Value.ownBlock] using hne2, ts ++ [(⟨kind, a0, st.at_, text, v⟩, [Value.int .i64 kind, .int .i64 a0, .int .i64 st.at_, .string text, .int .i64 v.T, nv, sv, .slice none 0 0])], by simp [hts], ?_, ?_⟩, F3⟩
  · have := (Fr.refl (fun k => k = g) w2).setCell (p := ⟨g, 2, none⟩) (fun _ => rfl) (.slice (some ⟨g', 0, none⟩) (ts.length + 1) cap')
    simpa using this.owns own2 (fun k hk => by simp [Value.ownBlock] at hk; subst hk; exact hne2)
  · have F4 : Fr (LxS g lv) w1 _ := ((Fr.refl _ w1).grown hgr (fun k hk _ => .inr hk.symm)).setCell (p := ⟨g, 2, none⟩) (fun _ => .inl rfl) (.slice (some ⟨g', 0, none⟩) (ts.length + 1) cap')
    have hkeep : ∀ b, (b < w.heap.size ∧ b ≠ g ∧ some b ≠ lv.ownBlock) → (w2.setCell ⟨g, 2, none⟩ (.slice (some ⟨g', 0, none⟩) (ts.length + 1) cap')).heap[b]? = w1.heap[b]? := fun b hb =>
      F4.block b (by have := F1.size; omega) (fun h => h.elim hb.2.1 hb.2.2)
    have hsub : ∀ b, (b < w.heap.size ∧ b ≠ g ∧ some b ≠ lv.ownBlock) → b < (w2.setCell ⟨g, 2, none⟩ (.slice (some ⟨g', 0, none⟩) (ts.length + 1) cap')).heap.size ∧ b ≠ g ∧ some b ≠ (Value.slice (some ⟨g', 0, none⟩) (ts.length + 1) cap').ownBlock := fun b hb =>
      ⟨Nat.lt_of_lt_of_le hb.1 F3.size, hb.2.1, fun e => by
        simp [Value.ownBlock] at e
        subst e
        rcases hsame with h | h
        · exact hb.2.2 h
        · have := F1.size; omega⟩
    intro p hp
    rcases List.mem_append.1 hp with hp | hp
    · exact (htok1 p hp).kept hkeep hsub
    · simp at hp
      subst hp
      exact hcs1.kept hkeep hsub
end Go.Proofs.YtnoplebjkbfedaaDoor
