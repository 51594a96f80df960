/- bytes.Equal. -/
import Derived.Test.YtehpikjhjghplaaB10
import Derived.Laws.BytesArg
import Derived.Shelf.Bytes.SlSmallAll
namespace Go.Proofs.Ytehpikjhjghplaa
open Go.RowKit
attribute [local go_sem ↓] Go.wp_at_zero Go.wp_at_succ
theorem conv_byt {w : World} {a : Option Addr} {n : Nat} {bs : List UInt8} (h : Rd w a n (byt bs)) (c : Nat) :
    (convert 22 9 (.slice a n c)).run Try.prog w = .ok (.string (strOfNums (bs.map (fun b => (b.toNat : Int))))) w := by
  have hl : bs.length = n := by simpa using h.len
  rcases Nat.eq_zero_or_pos n with hn | hn
  · subst hn
    obtain rfl : bs = [] := List.eq_nil_of_length_eq_zero hl
    exact run_convert_bytes_zero w 22 5 Try.underlying22 Try.underlying5 a c 9 Try.underlying9
  · obtain ⟨b, o, rfl, hc⟩ := h.cells hn
    refine run_convert_bytes_arg (P := Try.prog) w 22 5 Try.underlying22 Try.underlying5 b o n c _ (by simp [hl]) (fun i hi => ?_) 9 Try.underlying9
    have := hc i (bv (bs[i]'(by omega))) (by simp [byt, List.getElem?_eq_getElem (show i < bs.length by omega)])
    rw [this]
    unfold bv
    simp [List.getD, List.getElem?_eq_getElem (show i < bs.length by omega)]
theorem Equal_any (a1 a2 : Option Addr) (n c1 c2 : Nat) (bs : List UInt8) (w : World) (h1 : Rd w a1 n (byt bs)) (h2 : Rd w a2 n (byt bs)) :
    Calls Try.prog 25 #[.slice a1 n c1, .slice a2 n c2] w fun e w' => e = .returned (.bool true) ∧ w = w' := by
  have e1 := conv_byt h1 c1
  have e2 := conv_byt h2 c2
  clear h1 h2
  generalize strOfNums (bs.map (fun b => (b.toNat : Int))) = s at *
  go_enter Try.func25, Try.ntmps25
  go_wp2_with fail
  go_ret
  exact ⟨by simp, rfl⟩
end Go.Proofs.Ytehpikjhjghplaa
