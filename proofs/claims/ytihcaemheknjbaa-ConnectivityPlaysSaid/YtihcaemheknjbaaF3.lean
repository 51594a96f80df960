/- Find. -/
import Derived.Test.YtihcaemheknjbaaF2
import Derived.Test.YtihcaemheknjbaaComAll
import Derived.BigQuiet
import Derived.Deep.RegionHeld3
namespace Go.Proofs.Ytihcaemheknjbaa
open Go.RowKit
attribute [local go_sem ↓] Go.wp_at_zero Go.wp_at_succ
def fndS (n : Nat) (p : List Nat) (v : Int) : Int × Int := if v < 0 ∨ (n : Int) ≤ v then (0, 2) else (((p.getD v.toNat 0 : Nat) : Int), 0)
set_option maxHeartbeats 1000000 in
theorem Find_any {w : World} {B f n : Nat} {N : Nat → Prop} {S : FS} {K : List Chg} {p : List Nat} (v : Int) (h : Fo w B N f n S K) (hn : n ≤ 1000) (hp : Pt n S p) :
    Calls Try.prog 25 #[.pointer (some ⟨f, 0, none⟩), .int .i64 v] w fun e w' => e = .returned (.tuple #[.int .i64 (fndS n p v).1, .int .i64 (fndS n p v).2]) ∧ Fr F0 w w' := by
  have H := Lib.hid h
  by_cases hv : v < 0 ∨ (n : Int) ≤ v
  · have e1 : fndS n p v = (0, 2) := by unfold fndS; rw [if_pos hv]
    rw [e1]
    have eu : (decide (v < 0) || decide ((n : Int) ≤ v)) = true := by simpa using hv
    have HU := Lib.hid (unknown_any v h)
    rw [eu] at HU
    clear h hv e1 eu hp
    go_enter Try.func25, Try.ntmps25
    go_wp2_with fail
    refine HU.out.mono ?_
    rintro e w1 ⟨rfl, rfl⟩
    go_wp2_with fail
    go_ret2
    exact ⟨rfl, Fr.refl _ _⟩
  · obtain ⟨k, rfl⟩ := Int.eq_ofNat_of_zero_le (show 0 ≤ v by omega)
    have hkn : k < n := by omega
    obtain ⟨x, hx⟩ : ∃ x, p[k]? = some x := ⟨p[k]'(by rw [hp.lp]; exact hkn), List.getElem?_eq_getElem _⟩
    have e1 : fndS n p (k : Int) = ((x : Int), 0) := by
      unfold fndS
      rw [if_neg hv, Int.toNat_natCast, List.getD_eq_getElem?_getD, hx]; rfl
    rw [e1]
    have eu : (decide ((k : Int) < 0) || decide ((n : Int) ≤ (k : Int))) = false := by simp; omega
    have HU := Lib.hid (unknown_any (k : Int) h)
    rw [eu] at HU
    obtain ⟨r, hr, hL, _⟩ := hp.ex k x hx
    have HRo := Lib.hid (fun (W : World) (f0 : Fr F0 w W) => root_any (h.fr0 f0) hn hr)
    have hrn : r < n := by have := hr.ltr; rw [hp.lP] at this; exact this
    obtain ⟨ap, az, al, ak, cp, cz, cl, ck, hM, _⟩ := h
    have x2 := hM.blk.cell (i := 2) rfl
    obtain ⟨g, rfl, _, _, hc, _⟩ := hM.ol.at (by omega)
    have c0 := hc r _ (nv_get hL)
    clear hM hc hL hr hx e1 eu hp hv
    go_enter Try.func25, Try.ntmps25
    go_wp2_with fail
    refine HU.out.mono ?_
    rintro e w1 ⟨rfl, rfl⟩
    go_wp2_with fail
    go_region_held3 (fun w' => w'.cell? ⟨f, 2, none⟩ = some (.slice (some ⟨g, 0, none⟩) n cl) ∧ w'.cell? ⟨g, r, none⟩ = some (.int .i64 (x : Int))) (go_keep)
      (first | (go_at_call 42; refine (HRo.out _ (by repeat (first | exact Fr.refl _ _ | refine Fr.drew ?_))).mono ?_; rintro e w2 ⟨rfl, rfl⟩) | fail)
    go_wp2_with fail
    go_ret2
    exact ⟨rfl, (Fr.refl _ _).drew⟩
end Go.Proofs.Ytihcaemheknjbaa
