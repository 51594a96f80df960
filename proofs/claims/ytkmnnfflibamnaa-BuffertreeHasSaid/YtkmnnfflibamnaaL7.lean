/- Buffer trees: slices of pairs. -/
import Derived.Test.YtkmnnfflibamnaaG27
import Derived.ChangeKeysEq
import Derived.Laws.StructEq
import Derived.BigQuiet
namespace Go.Proofs.Ytkmnnfflibamnaa
open Go.RowKit
attribute [local go_sem ↓] Go.wp_at_zero Go.wp_at_succ
theorem prs_get : ∀ {l : List En} {i : Nat} {x : En}, l[i]? = some x → ∀ j, j < 2 → (prs l)[i * 2 + j]? = (pr2 x)[j]?
  | [], i, x, h, j, hj => by simp at h
  | y :: l, 0, x, h, j, hj => by
    injection h with h
    subst h
    unfold prs
    rw [List.flatMap_cons, Nat.zero_mul, Nat.zero_add, List.getElem?_append_left (by show j < 2; exact hj)]
  | y :: l, i + 1, x, h, j, hj => by
    have ih := prs_get (l := l) (i := i) (by simpa using h) j hj
    unfold prs at ih ⊢
    rw [List.flatMap_cons, List.getElem?_append_right (by show 2 ≤ _; omega), ← ih]
    congr 1
    show (i + 1) * 2 + j - 2 = _
    omega
theorem RdZ_pr {w : World} {a : Option Addr} {n : Nat} {l : List En} (h : RdZ w 2 a n (prs l)) {i : Nat} {x : En} (hx : l[i]? = some x) :
    ∃ b o, a = some ⟨b, o, none⟩ ∧ w.cell? ⟨b, o + i * 2, none⟩ = some (.int .i64 x.1) ∧ w.cell? ⟨b, o + i * 2 + 1, none⟩ = some (.int .i64 x.2.1) := by
  have hl := h.len
  rw [prs_len] at hl
  have hi := (List.getElem?_eq_some_iff.1 hx).1
  obtain ⟨b, o, ha, hc⟩ := h.cells (by omega)
  refine ⟨b, o, ha, ?_, ?_⟩
  · have := hc _ (.int .i64 x.1) (by rw [prs_get hx 0 (by omega)]; rfl); simpa using this
  · have := hc _ (.int .i64 x.2.1) (by rw [prs_get hx 1 (by omega)]; rfl); rw [Nat.add_assoc]; exact this
theorem prs_one (l : List En) : ∀ u ∈ prs l, u.oneCell' = true := by
  intro u hu
  obtain ⟨x, _, hx⟩ := List.mem_flatMap.1 hu
  simp only [pr2, List.mem_cons, List.not_mem_nil, or_false] at hx
  rcases hx with rfl | rfl <;> rfl
theorem neqP (x0 x1 : Int) (w : World) : (Op.equalIn 10000 59 (.agg #[.int .i64 x0, .int .i64 x1]) (.agg #[.int .i64 x0, .int .i64 x1])).run Try.prog w = .ok true w := by
  obtain ⟨i, hi⟩ := Option.isSome_iff_exists.1 (show (Try.prog.info? 3).isSome = true by kernel_rfl)
  have u3 := Try.underlying3
  have hu : Try.prog.underlying 59 = some (.array 2 3) := by kernel_rfl
  have hc : Try.prog.cellsOf 3 = 1 := by kernel_rfl
  rw [show (10000 : Nat) = 9998 + 1 + 1 from rfl, run_equalIn_array w (9998 + 1) _ _ hu hi, hc]
  rw [show List.range 2 = [0, 1] from rfl]
  unfold Op.eqItems Op.eqItems Op.eqItems
  go_simp
attribute [local go_sem] neqP
theorem eqg59 : Try.prog.eqGuardType Try.prog.depth 59 = false := by kernel_rfl
attribute [local go_sem] eqg59
/-- slices.Equal at pairs: the same ones. -/
theorem EqualP_same {a1 a2 : Option Addr} {n : Nat} (c1 c2 : Nat) {l : List En} {w : World} (hx : RdZ w 2 a1 n (prs l)) (hy : RdZ w 2 a2 n (prs l)) :
    Calls Try.prog 26 #[.slice a1 n c1, .slice a2 n c2] w fun e w' => e = .returned (.bool true) ∧ ∃ q, w' = w.drewN q := by
  have hxl : l.length = n := by have := hx.len; rw [prs_len] at this; omega
  have hm1 := hx.max
  have Hx := Lib.hid hxl
  clear hxl
  have hne : (((n : Nat) : Int) != (n : Int)) = false := by simp
  go_enter Try.func26, Try.ntmps26
  go_wp2_with fail
  go_loopw [13] (fun i wr => ∃ k : Nat, k ≤ n ∧ i = .int .i64 k ∧ ∃ q, wr = w.drewN q) (fun i _ => n - (intOf i).toNat)
  case atStart => exact ⟨0, by omega, rfl, 0, rfl⟩
  case round =>
    obtain ⟨k, hk, rfl, q, rfl⟩ := hrel
    by_cases hlt : k < n
    · obtain ⟨x, hxk⟩ : ∃ x, l[k]? = some x := ⟨_, List.getElem?_eq_getElem (by rw [Hx.out]; exact hlt)⟩
      obtain ⟨b1, o1, rfl, d10, d11⟩ := RdZ_pr hx hxk
      obtain ⟨b2, o2, rfl, d20, d21⟩ := RdZ_pr hy hxk
      obtain ⟨x0, x1, x2⟩ := x
      dsimp only at d10 d11 d20 d21
      clear hxk
      go_wp2_with fail
      go_quiet (fail)
      go_wp2_with fail
      go_roundw
      case rel => exact ⟨k + 1, by omega, by go_num, _, rfl⟩
      case measure => simp [intOf]; omega
    · have hkm : k = n := by omega
      subst hkm
      go_wp2_with fail
      go_ret
      exact ⟨rfl, _, rfl⟩
/-- slices.Clone at pairs. -/
theorem CloneP_any {a : Option Addr} {n c : Nat} {l : List En} {w : World} (hr : RdZ w 2 a n (prs l)) (hn2 : n ≤ 1000000) :
    Calls Try.prog 33 #[.slice a n c] w fun e w' => ∃ a' c', e = .returned (.slice a' n c') ∧ OwnZ w' w.heap.size 59 2 a' n c' (prs l) ∧ Fr F0 w w' := by
  have hnil := fun (w : World) (a : Option Addr) (l c : Nat) => Lib.run_eql_slice_nil (P := Try.prog) w 55 59 a l c 0 0 Try.underlying55
  cases a with
  | none =>
    have hn : n = 0 := by
      rcases Nat.eq_zero_or_pos n with h | h
      · exact h
      · obtain ⟨b, o, e, _⟩ := hr.cells h; cases e
    subst hn
    have hl : l = [] := by have := hr.len; rw [prs_len] at this; exact List.length_eq_zero_iff.1 (by omega)
    subst hl
    clear hr
    go_enter Try.func33, Try.ntmps33
    go_wp2_with fail
    go_ret
    exact ⟨none, 0, rfl, OwnZ.nil _ _ _ _, Fr.refl _ _⟩
  | some ad =>
    have hF : Fr F0 w (w.alloc (.cells (#[] : Array Value) 59)) := (Fr.refl _ _).alloc _
    have hO : OwnZ (w.alloc (.cells (#[] : Array Value) 59)) w.heap.size 59 2 (some ⟨w.heap.size, 0, none⟩) 0 0 [] := OwnZ.lit [] 0 rfl (by omega) (by omega)
    replace hO := Lib.hid hO
    have hR := Lib.hid (hr.fr0 hF)
    replace hF := Lib.hid hF
    clear hr
    go_enter Try.func33, Try.ntmps33
    go_wp2_with (at_builtin; refine wpAppZRd E59 (by omega) hO.out hR.out (prs_one l) (by omega) (by omega) (by simp) n (by omega) rfl rfl ?_; intro a' c' w' own' fr' at')
    go_ret
    refine ⟨a', c', rfl, by simpa using own', hF.out.trans fr' (fun k hk hs => ?_)⟩
    have := (onBlk_some _ _ _ _).1 hs
    omega
end Go.Proofs.Ytkmnnfflibamnaa
