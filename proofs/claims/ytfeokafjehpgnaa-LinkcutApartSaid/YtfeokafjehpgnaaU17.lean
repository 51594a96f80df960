/- many; play. -/
import Derived.Test.YtfeokafjehpgnaaU16
import Derived.Test.YtfeokafjehpgnaaComArg
namespace Go.Proofs.Ytfeokafjehpgnaa
open Go.RowKit
attribute [local go_sem ↓] Go.wp_at_zero Go.wp_at_succ
theorem LF.steps {w : World} {f b n : Nat} {s : Int} {P : Nat → Nat} {wt : Nat → Int} (h : LF w f b n s P wt) : Calls Try.prog 34 #[.pointer (some ⟨f, 0, none⟩)] w fun e w' => e = .returned (.int .i64 s) ∧ w = w' := by
  obtain ⟨V, T, k1, k2, k3⟩ := h.ex
  exact Steps_any w k1
def manyB (n m : Nat) : Bool := (decide (60 < n) && decide (n ≤ 1000)) || decide (1100 < n) || decide (80 < m)
theorem many_any (w : World) (a b : Option Addr) (n m c d : Nat) : Calls Try.prog 10 #[.slice a n c, .slice b m d] w fun e w' => e = .returned (.bool (manyB n m)) ∧ w = w' := by
  by_cases h1 : 60 < n
  · by_cases h2 : n ≤ 1000
    · have e : manyB n m = true := by simp [manyB, h1, h2]
      rw [e]
      have h1' : (60 : Int) < (n : Int) := by omega
      have h2' : (n : Int) ≤ 1000 := by omega
      clear e h1 h2
      go_enter Try.func10, Try.ntmps10
      go_wp2_with fail
      go_ret
      exact ⟨rfl, rfl⟩
    · by_cases h3 : 1100 < n
      · have e : manyB n m = true := by simp [manyB, h3]
        rw [e]
        have h1' : (60 : Int) < (n : Int) := by omega
        have h2' : ¬ (n : Int) ≤ 1000 := by omega
        have h3' : (1100 : Int) < (n : Int) := by omega
        clear e h1 h2 h3
        go_enter Try.func10, Try.ntmps10
        go_wp2_with fail
        go_ret
        exact ⟨rfl, rfl⟩
      · have e : manyB n m = decide ((80 : Int) < (m : Int)) := by
          simp [manyB, h2, h3]
          omega
        rw [e]
        have h1' : (60 : Int) < (n : Int) := by omega
        have h2' : ¬ (n : Int) ≤ 1000 := by omega
        have h3' : ¬ (1100 : Int) < (n : Int) := by omega
        clear e h1 h2 h3
        go_enter Try.func10, Try.ntmps10
        go_wp2_with fail
        go_ret
        exact ⟨rfl, rfl⟩
  · have h3 : ¬ 1100 < n := by omega
    have e : manyB n m = decide ((80 : Int) < (m : Int)) := by
      simp [manyB, h1, h3]
      omega
    rw [e]
    have h1' : ¬ (60 : Int) < (n : Int) := by omega
    have h3' : ¬ (1100 : Int) < (n : Int) := by omega
    clear e h1 h3
    go_enter Try.func10, Try.ntmps10
    go_wp2_with fail
    go_ret
    exact ⟨rfl, rfl⟩
set_option maxRecDepth 100000 in
theorem play_none (w : World) {a st : Option Addr} {n c m d : Nat} {ws : List Int} (hp : Rd w a n (ints ws)) (hb : ws.any badW = true ∨ (ws.any badW = false ∧ 1000 < n)) :
    Calls Try.prog 11 #[.slice a n c, .slice st m d] w fun e w' => e = .returned (.tuple #[.pointer none, rv0, .bool true]) ∧ Fr F0 w w' := by
  obtain ⟨e0, he0, h1, h2⟩ : ∃ e0 : Int, (e0 = 1 ∨ e0 = 4) ∧ (∀ W, Rd W a n (ints ws) → Calls Try.prog 36 #[.slice a n c] W fun e w' => e = .returned (.tuple #[.pointer none, .int .i64 e0]) ∧ W = w') ∧
      (∀ W, Rd W a n (ints ws) → Calls Try.prog 37 #[.slice a n c] W fun e w' => e = .returned (.tuple #[rv0, .int .i64 e0]) ∧ Fr F0 W w') := by
    rcases hb with hb | ⟨hb, hm⟩
    · exact ⟨1, .inl rfl, fun W hW => New_arg W hW hb, fun W hW => refNew_arg W hW hb⟩
    · exact ⟨4, .inr rfl, fun W hW => New_full W hW hb hm, fun W hW => refNew_full W hW hb hm⟩
  have bR := Blk.new w 28 [.slice none 0 0, .slice none 0 0]
  have Hp := Lib.hid hp
  have HR := Lib.hid bR
  have H1 := Lib.hid h1
  have H2 := Lib.hid h2
  clear hp hb h1 h2 bR
  rcases he0 with rfl | rfl
  · go_enter Try.func11, Try.ntmps11
    go_wp2_with (first
      | (go_at_call 36; refine (H1.out _ (Hp.out.fr0 ((Fr.refl _ _).alloc _))).mono ?_; rintro e w1 ⟨rfl, rfl⟩)
      | (go_at_call 37; refine (H2.out _ (Hp.out.fr0 ((Fr.refl _ _).alloc _))).mono ?_; rintro e w1 ⟨rfl, F1⟩; have br := HR.out.fr F1 id; have r0 := br.cell (i := 0) rfl; have r1 := br.cell (i := 1) rfl; have y0 := br.free 0; have y1 := br.free 1; have lt := br.lt; replace F1 := Lib.hid F1; replace br := Lib.hid br))
    go_region
    all_goals go_wp2_with fail
    have bE := ((br.out.set 0 (.slice none 0 0)).set 1 (.slice none 0 0)).alloc (.cells #[.slice none 0 0, .slice none 0 0] 28)
    have q0 := bE.cell (i := 0) rfl
    have q1 := bE.cell (i := 1) rfl
    refine bodyPost_ret (v := .tuple #[.pointer none, rv0, .bool true]) (by simp [results, Try.results11, go_sem, q0, q1]) rfl ⟨rfl, ?_⟩
    exact ((((((Fr.refl F0 w).alloc (.cells #[.slice none 0 0, .slice none 0 0] 28)).trans F1.out (fun _ _ h => h)).setCell (p := ⟨w.heap.size, 0, none⟩) (fun h => by dsimp only at h; omega) _).setCell (p := ⟨w.heap.size, 1, none⟩) (fun h => by dsimp only at h; omega) _).alloc _).drew
  · go_enter Try.func11, Try.ntmps11
    go_wp2_with (first
      | (go_at_call 36; refine (H1.out _ (Hp.out.fr0 ((Fr.refl _ _).alloc _))).mono ?_; rintro e w1 ⟨rfl, rfl⟩)
      | (go_at_call 37; refine (H2.out _ (Hp.out.fr0 ((Fr.refl _ _).alloc _))).mono ?_; rintro e w1 ⟨rfl, F1⟩; have br := HR.out.fr F1 id; have r0 := br.cell (i := 0) rfl; have r1 := br.cell (i := 1) rfl; have y0 := br.free 0; have y1 := br.free 1; have lt := br.lt; replace F1 := Lib.hid F1; replace br := Lib.hid br))
    go_region
    all_goals go_wp2_with fail
    have bE := ((br.out.set 0 (.slice none 0 0)).set 1 (.slice none 0 0)).alloc (.cells #[.slice none 0 0, .slice none 0 0] 28)
    have q0 := bE.cell (i := 0) rfl
    have q1 := bE.cell (i := 1) rfl
    refine bodyPost_ret (v := .tuple #[.pointer none, rv0, .bool true]) (by simp [results, Try.results11, go_sem, q0, q1]) rfl ⟨rfl, ?_⟩
    exact ((((((Fr.refl F0 w).alloc (.cells #[.slice none 0 0, .slice none 0 0] 28)).trans F1.out (fun _ _ h => h)).setCell (p := ⟨w.heap.size, 0, none⟩) (fun h => by dsimp only at h; omega) _).setCell (p := ⟨w.heap.size, 1, none⟩) (fun h => by dsimp only at h; omega) _).alloc _).drew
end Go.Proofs.Ytfeokafjehpgnaa
