/- splay: its first regions; its range. -/
import Derived.Test.YtfeokafjehpgnaaW13
namespace Go.Proofs.Ytfeokafjehpgnaa
open Go.RowKit Go.Shelf
section
attribute [local go_sem ↓] Go.wp_at_zero Go.wp_at_succ
set_option maxRecDepth 100000 in
theorem spl_r0 {w : World} {f b n : Nat} {s : Int} {V : K.Vs} {x : Nat} {c2 c4 c5 c7 c8 c9 : Value} {ds : List Deferred} {a : Act} (ha : a = SF f x c2 c4 c5 c7 c8 c9 ds (gOf a)) (S : FS w f b n s V) :
    (rg53 0).wp Try.prog (Exit.then (fun a D => a = SF f x (.pointer (some ⟨w.heap.size, 0, none⟩)) c4 c5 c7 c8 c9 ds (gOf a) ∧ SS w D f b n s V w.heap.size none 0 0 [] []) fun _ _ _ => False) a w := by
  have HS := Lib.hid S
  clear S
  rw [ha]
  clear ha
  generalize gOf a = gg
  unfold SF
  conv => arg 2; whnf
  go_wp2_with fail
  exact ⟨rfl, HS.out.alloc _, (Fr.refl _ _).alloc _, One.new _ _, Nat.le_refl _, Own.nil _ _ _, fun k h => absurd h (onBlk_none _), HS.out.fb.lt, HS.out.ltb, fun d hd => by cases hd⟩
set_option maxRecDepth 100000 in
theorem spl_r1 {w W : World} {f b n : Nat} {s : Int} {V : K.Vs} {x bx : Nat} {c4 c5 c7 c8 c9 : Value} {ds : List Deferred} {a : Act} (ha : a = SF f x (.pointer (some ⟨bx, 0, none⟩)) c4 c5 c7 c8 c9 ds (gOf a)) (S : SS w W f b n s V bx none 0 0 [] []) :
    (rg53 1).wp Try.prog (Exit.then (fun a D => ∃ pa pc, SO w f b n s V x bx pa 1 pc [x] [] c5 c7 c8 c9 ds 0 undef a D) fun _ _ _ => False) a W := by
  have HS := Lib.hid S
  clear S
  rw [ha]
  clear ha
  generalize gOf a = gg
  unfold SF
  conv => arg 2; whnf
  go_wp2_with fail
  have hsz := HS.out.fr.size
  have hl := HS.out.one.lt
  refine ⟨some ⟨W.heap.size, 0, none⟩, 1, rfl, fun h => absurd rfl h, HS.out.fs.alloc _, HS.out.fr.alloc _, HS.out.one.alloc _, HS.out.hbx, ?_, ?_, HS.out.hf, HS.out.hb, fun d hd => by cases hd⟩
  · exact Own.lit [.int .i64 (x : Nat)] 1 rfl hsz (by omega)
  · intro k hk
    have := (onBlk_some _ _ _ _).1 hk
    omega
set_option maxRecDepth 100000 in
theorem spl_r6 {w W : World} {f b n : Nat} {s : Int} {V : K.Vs} {x bx : Nat} {pa : Option Addr} {pn pc : Nat} {vs : List Nat} {c5 c7 c8 c9 : Value} {ds : List Deferred} {a : Act} (ha : a = SF f x (.pointer (some ⟨bx, 0, none⟩)) (.slice pa pn pc) c5 c7 c8 c9 ds (gOf a)) (S : SS w W f b n s V bx pa pn pc vs []) :
    (rg53 6).wp Try.prog (Exit.then (fun a D => ∃ Bs, (One D Bs 22 (.slice pa pn pc) ∧ w.heap.size ≤ Bs ∧ Bs ≠ bx ∧ ¬ onBlk pa Bs) ∧ SO w f b n s V x bx pa pn pc vs [] c5 c7 c8 c9 ds 30 (.func (.func 68) #[] #[.pointer (some ⟨Bs, 0, none⟩)]) a D) fun _ _ _ => False) a W := by
  have HS := Lib.hid S
  clear S
  rw [ha]
  clear ha
  generalize gOf a = gg
  unfold SF
  conv => arg 2; whnf
  go_wp2_with (go_at_call 64; refine (back_in _ _ _ _).mono ?_; rintro e w1 ⟨rfl, rfl⟩)
  have hsz := HS.out.fr.size
  have hl := HS.out.one.lt
  refine ⟨W.heap.size, ⟨One.new _ _, hsz, by omega, fun h => ?_⟩, rfl, fun _ => rfl, HS.out.fs.alloc _, HS.out.fr.alloc _, HS.out.one.alloc _, HS.out.hbx, HS.out.path.alloc _, HS.out.ap, HS.out.hf, HS.out.hb, fun d hd => by cases hd⟩
  have := (HS.out.path.blk _ h).2
  omega
end
end Go.Proofs.Ytfeokafjehpgnaa
