/- The lexer's method numeral, joined. -/
import Derived.Test.YtnoplebjkbfedaaDoorC3
namespace Go.Proofs.YtnoplebjkbfedaaDoor
open Go Go.RowKit
theorem numeral_c {w : World} {B g : Nat} {s : ByteArray} {st : LxSt} {lv : Value} (gl : Gl B w) (hx : IsLx w B g s st lv) (i : Nat) (hi : st.at_ = i) (hle : i ≤ s.size) (hs : s.size ≤ 65536) (hn : st.toks.length ≤ 1000000) (herr : st.err = 0) :
    Calls Tryd.prog 23 #[.pointer (some ⟨g, 0, none⟩)] w fun e w' => e = .returned (.tuple #[]) ∧ LxRes (numeralR s st i) B g s w' ∧ Fr (LxS g lv) w w' := by
  cases hb : bitsB (subS s i (runN lnI s i)).data.toList with
  | true => exact numeral_bits gl hx i hi hle hs hn hb
  | false => exact numeral_nums gl hx i hi hle hs hn herr hb
end Go.Proofs.YtnoplebjkbfedaaDoor
