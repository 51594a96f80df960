/- merge: any state that the closure carries on. -/
import Derived.Test.YtglonedhcljdoaaC7
import Derived.BigQuiet
namespace Go.Proofs.Ytglonedhcljdoaa
open Go.RowKit
attribute [local go_sem ↓] Go.wp_at_zero Go.wp_at_succ

theorem drewsN {S : World → Prop} (h : ∀ w, S w → S w.drew) : ∀ (q : Nat) (w : World), S w → S (w.drewN q)
  | 0, _, hw => hw
  | q + 1, w, hw => by have := drewsN h q w hw; exact h _ this
theorem Make3_any (x y : Int) (w : World) : Calls Try.prog 28 #[.int .i64 x, .int .i64 y] w fun e w' => e = .returned (.bool (decide (x < y))) ∧ w = w' := by
  go_enter Try.func28, Try.ntmps28
  go_wp2_with fail
  go_ret
  exact ⟨rfl, rfl⟩
theorem Make3_at (x y : Int) (b : Bool) (h : decide (x < y) = b) (w : World) : Calls Try.prog 28 #[.int .i64 x, .int .i64 y] w fun e w' => e = .returned (.bool b) ∧ w' = w :=
  (Make3_any x y w).mono (by rintro e w' ⟨rfl, rfl⟩; exact ⟨by rw [h], rfl⟩)
/-- The rest of a list behind its head, in whatever world the whole reads. -/
def Rest (a : Option Addr) (n : Nat) (xs : List Int) (a1 : Option Addr) (n1 c1 : Nat) (xs1 : List Int) : Prop := n1 ≤ c1 ∧ ∀ w, Rd w a n (ints xs) → Rd w a1 n1 (ints xs1)
theorem Rest.tail {a : Option Addr} {n : Nat} {xs : List Int} {a1 : Option Addr} {n1 c1 q : Nat} {x : Int} {xs1 : List Int} (h : Rest a n xs a1 n1 c1 (x :: xs1)) (hq : n1 = 1 + q) : Rest a n xs (cutA a1 c1 1) q (c1 - 1) xs1 :=
  ⟨by have := h.1; omega, fun w hw => by have h1 := (h.2 w hw).cut h.1 hq; simpa using h1⟩

set_option maxHeartbeats 4000000 in
theorem merge_any (b4 b6 b9 b10 b11 : Nat) (S : List (Int × Bool) → World → Prop) (a : Option Addr) (n ca : Nat) (xs : List Int) (b : Option Addr) (m cb : Nat) (ys : List Int) (w : World)
    (hR : ∀ ks w, S ks w → Rd w a n (ints xs) ∧ Rd w b m (ints ys)) (hd : ∀ ks w, S ks w → S ks w.drew)
    (hf : ∀ ks w key s, S ks w → ks.length ≤ 2000 → Calls Try.prog 29 #[.int .i64 key, .bool s, .pointer (some ⟨b4, 0, none⟩), .pointer (some ⟨b6, 0, none⟩), .pointer (some ⟨b9, 0, none⟩), .pointer (some ⟨b10, 0, none⟩), .pointer (some ⟨b11, 0, none⟩)] w fun e w' => e = .returned (.tuple #[]) ∧ S (ks ++ [(key, s)]) w')
    (hn : n ≤ 1000) (hm : m ≤ 1000) (hca : n ≤ ca) (hcb : m ≤ cb) (h0 : S [] w) :
    Calls Try.prog 27 #[.slice a n ca, .slice b m cb, .func (.func 28) #[] #[], .func (.func 29) #[] #[.pointer (some ⟨b4, 0, none⟩), .pointer (some ⟨b6, 0, none⟩), .pointer (some ⟨b9, 0, none⟩), .pointer (some ⟨b10, 0, none⟩), .pointer (some ⟨b11, 0, none⟩)]] w fun e w' => e = .returned (.tuple #[]) ∧ S (mergeB xs ys) w' := by
  have hxl : xs.length = n := by simpa using (hR _ _ h0).1.len
  have hyl : ys.length = m := by simpa using (hR _ _ h0).2.len
  have HR := Lib.hid hR
  have Hd := Lib.hid hd
  have Hf := Lib.hid hf
  have Hx := Lib.hid hxl
  have Hy := Lib.hid hyl
  have r1 : Hid (Rest a n xs a n ca xs) := Lib.hid ⟨hca, fun _ h => h⟩
  have r2 : Hid (Rest b m ys b m cb ys) := Lib.hid ⟨hcb, fun _ h => h⟩
  have H0 := Lib.hid h0
  clear hR hd hf hxl hyl h0 hca hcb
  go_enter Try.func27, Try.ntmps27
  go_wp2_with fail
  go_loopw [0, 1] (fun s t wr => ∃ (a1 : Option Addr) (n1 c1 : Nat) (xs1 : List Int) (e1 : Option Addr) (m1 d1 : Nat) (ys1 : List Int) (ks : List (Int × Bool)), s = .slice a1 n1 c1 ∧ t = .slice e1 m1 d1 ∧ n1 ≤ 1000 ∧ m1 ≤ 1000 ∧ ks.length + n1 + m1 ≤ 2000 ∧
    Hid (Rest a n xs a1 n1 c1 xs1) ∧ Hid (Rest b m ys e1 m1 d1 ys1) ∧ Hid (mergeB xs ys = ks ++ mergeB xs1 ys1) ∧ Hid (S ks wr)) (fun s t _ => (match s with | .slice _ k _ => k | _ => 0) + (match t with | .slice _ k _ => k | _ => 0))
  case atStart => exact ⟨a, n, ca, xs, b, m, cb, ys, [], rfl, rfl, hn, hm, by simp; omega, r1, r2, Lib.hid rfl, H0⟩
  case round =>
    obtain ⟨a1, n1, c1, xs1, e1, m1, d1, ys1, ks, rfl, rfl, hn1, hm1, hkl, q1, q2, hE, hS⟩ := hrel
    have ha1 := q1.out.2 _ (HR.out _ _ hS.out).1
    have hb1 := q2.out.2 _ (HR.out _ _ hS.out).2
    have hl1 : xs1.length = n1 := by simpa using ha1.len
    have hl2 : ys1.length = m1 := by simpa using hb1.len
    cases xs1 with
    | nil =>
      simp only [List.length_nil] at hl1
      have zn1 : ((n1 : Int) == 0) = true := by simp; omega
      have zn2 : decide ((0 : Int) < (n1 : Int)) = false := by simp; omega
      have zn3 : decide (0 < n1) = false := by simp; omega
      have zn4 : (n1 == 0) = true := by simp; omega
      have zn5 : decide (n1 = 0) = true := by simp; omega
      have zn6 : decide ((n1 : Int) = 0) = true := by simp; omega
      have Hl1 := Lib.hid hl1
      clear hl1
      cases ys1 with
      | nil =>
        simp only [List.length_nil] at hl2
        have zm1 : ((m1 : Int) == 0) = true := by simp; omega
        have zm2 : decide ((0 : Int) < (m1 : Int)) = false := by simp; omega
        have zm3 : decide (0 < m1) = false := by simp; omega
        have zm4 : (m1 == 0) = true := by simp; omega
        have zm5 : decide (m1 = 0) = true := by simp; omega
        have zm6 : decide ((m1 : Int) = 0) = true := by simp; omega
        clear hl2
        have hfin : Hid (S (mergeB xs ys) wr) := Lib.hid (by rw [hE.out]; simpa [mergeB] using hS.out)
        clear ha1 hb1
        go_wp2_with fail
        go_end0
        exact ⟨rfl, hfin.out⟩
      | cons y yt =>
        obtain ⟨p, hp⟩ : ∃ p, m1 = 1 + p := ⟨m1 - 1, by simp at hl2; omega⟩
        obtain ⟨g, o, z, hg, hz, hcy⟩ := hb1.ix (i := 0) (by omega)
        have ez : z = y := by simpa using hz.symm
        subst ez
        simp only [Nat.add_zero] at hcy
        have hm0 : decide ((0 : Int) < (m1 : Int)) = true := by simp; omega
        have hm0' : 0 < m1 := by omega
        have hm0b : decide (0 < m1) = true := by simp; omega
        have hmz : ((m1 : Int) == 0) = false := by simp; omega
        have hm4 : (m1 == 0) = false := by simp; omega
        have hm5 : decide (m1 = 0) = false := by simp; omega
        have hm6 : decide ((m1 : Int) = 0) = false := by simp; omega
        have hE2 : Hid (mergeB xs ys = (ks ++ [(z, true)]) ++ mergeB [] yt) := Lib.hid (by rw [hE.out, merge_right (.inl rfl)]; simp)
        have q2' : Hid (Rest b m ys (cutA e1 d1 1) p (d1 - 1) yt) := Lib.hid (q2.out.tail hp)
        have Hp := Lib.hid hp
        have hkl2 : Hid (ks.length ≤ 2000) := Lib.hid (by omega)
        have hkl3 : Hid (ks.length + 1 + p + n1 ≤ 2000) := Lib.hid (by omega)
        have hSd := Lib.hid (fun q => drewsN (S := S ks) (Hd.out ks) q _ hS.out)
        subst hg
        clear hz ha1 hb1 hl2 hp
        go_wp2_with fail
        go_quiet (fail)
        go_wp2_with fail
        refine (Hf.out ks _ z true (hSd.out _) hkl2.out).mono ?_; rintro e w5 ⟨rfl, S5⟩
        replace S5 := Lib.hid S5
        go_wp2_with (refine wpCut (k := 1) E3 Hp.out rfl rfl ?_)
        go_roundw
        case rel => exact ⟨a1, n1, c1, [], cutA (some ⟨g, o, none⟩) d1 1, p, d1 - 1, yt, ks ++ [(z, true)], rfl, rfl, hn1, by have := Hp.out; omega, by have := hkl3.out; simp; omega, q1, q2', hE2, S5⟩
        case measure => have := Hp.out; simp; omega
    | cons x xt =>
      obtain ⟨p, hp⟩ : ∃ p, n1 = 1 + p := ⟨n1 - 1, by simp at hl1; omega⟩
      obtain ⟨g, o, z, hg, hz, hcx⟩ := ha1.ix (i := 0) (by omega)
      have ez : z = x := by simpa using hz.symm
      subst ez
      simp only [Nat.add_zero] at hcx
      have hn0 : decide ((0 : Int) < (n1 : Int)) = true := by simp; omega
      have hnz : ((n1 : Int) == 0) = false := by simp; omega
      have hn0b : decide (0 < n1) = true := by simp; omega
      have hn4 : (n1 == 0) = false := by simp; omega
      have hn5 : decide (n1 = 0) = false := by simp; omega
      have hn6 : decide ((n1 : Int) = 0) = false := by simp; omega
      have hn0' : 0 < n1 := by omega
      have q1' : Hid (Rest a n xs (cutA a1 c1 1) p (c1 - 1) xt) := Lib.hid (q1.out.tail hp)
      have Hp := Lib.hid hp
      have hkl2 : Hid (ks.length ≤ 2000) := Lib.hid (by omega)
      have hkl3 : Hid (ks.length + 1 + p + m1 ≤ 2000) := Lib.hid (by omega)
      have hSd := Lib.hid (fun q => drewsN (S := S ks) (Hd.out ks) q _ hS.out)
      subst hg
      clear hz ha1 hl1 hp
      cases ys1 with
      | nil =>
        simp only [List.length_nil] at hl2
        have zm1 : ((m1 : Int) == 0) = true := by simp; omega
        have zm2 : decide ((0 : Int) < (m1 : Int)) = false := by simp; omega
        have zm3 : decide (0 < m1) = false := by simp; omega
        have zm4 : (m1 == 0) = true := by simp; omega
        have zm5 : decide (m1 = 0) = true := by simp; omega
        have zm6 : decide ((m1 : Int) = 0) = true := by simp; omega
        clear hl2
        have hE2 : Hid (mergeB xs ys = (ks ++ [(z, false)]) ++ mergeB xt []) := Lib.hid (by rw [hE.out, merge_left (.inl rfl)]; simp)
        clear hb1
        go_wp2_with fail
        go_quiet (fail)
        go_wp2_with fail
        refine (Hf.out ks _ z false (hSd.out _) hkl2.out).mono ?_; rintro e w5 ⟨rfl, S5⟩
        replace S5 := Lib.hid S5
        go_wp2_with (refine wpCut (k := 1) E3 Hp.out rfl rfl ?_)
        go_roundw
        case rel => exact ⟨cutA (some ⟨g, o, none⟩) c1 1, p, c1 - 1, xt, e1, m1, d1, [], ks ++ [(z, false)], rfl, rfl, by have := Hp.out; omega, hm1, by have := hkl3.out; simp; omega, q1', q2, hE2, S5⟩
        case measure => have := Hp.out; simp; omega
      | cons y yt =>
        obtain ⟨p2, hp2⟩ : ∃ p, m1 = 1 + p := ⟨m1 - 1, by simp at hl2; omega⟩
        obtain ⟨g2, o2, z2, hg2, hz2, hcy⟩ := hb1.ix (i := 0) (by omega)
        have ez : z2 = y := by simpa using hz2.symm
        subst ez
        simp only [Nat.add_zero] at hcy
        have hm0 : decide ((0 : Int) < (m1 : Int)) = true := by simp; omega
        have hm0' : 0 < m1 := by omega
        have hm0b : decide (0 < m1) = true := by simp; omega
        have hmz : ((m1 : Int) == 0) = false := by simp; omega
        have hm4 : (m1 == 0) = false := by simp; omega
        have hm5 : decide (m1 = 0) = false := by simp; omega
        have hm6 : decide ((m1 : Int) = 0) = false := by simp; omega
        have q2' : Hid (Rest b m ys (cutA e1 d1 1) p2 (d1 - 1) yt) := Lib.hid (q2.out.tail hp2)
        have Hp2 := Lib.hid hp2
        subst hg2
        clear hz2 hb1 hl2 hp2
        by_cases hlt : z2 < z
        · have hdl : decide (z2 < z) = true := by simpa using hlt
          have hE2 : Hid (mergeB xs ys = (ks ++ [(z2, true)]) ++ mergeB (z :: xt) yt) := Lib.hid (by rw [hE.out, merge_right (.inr ⟨z, xt, rfl, hlt⟩)]; simp)
          replace hlt := Lib.hid hlt
          go_wp2_with fail
          go_quiet (first | (go_at_call 28; exact Calls.quiet_of_same (Make3_at z2 z _ hdl _)))
          go_wp2_with fail
          refine (Hf.out ks _ z2 true (hSd.out _) hkl2.out).mono ?_; rintro e w5 ⟨rfl, S5⟩
          replace S5 := Lib.hid S5
          go_wp2_with (refine wpCut (k := 1) E3 Hp2.out rfl rfl ?_)
          go_roundw
          case rel => exact ⟨some ⟨g, o, none⟩, n1, c1, z :: xt, cutA (some ⟨g2, o2, none⟩) d1 1, p2, d1 - 1, yt, ks ++ [(z2, true)], rfl, rfl, hn1, by have := Hp2.out; omega, by have := hkl3.out; have := Hp.out; have := Hp2.out; simp; omega, q1, q2', hE2, S5⟩
          case measure => have := Hp2.out; simp; omega
        · have hdl : decide (z2 < z) = false := by simpa using hlt
          have hE2 : Hid (mergeB xs ys = (ks ++ [(z, false)]) ++ mergeB xt (z2 :: yt)) := Lib.hid (by rw [hE.out, merge_left (.inr ⟨z2, yt, rfl, hlt⟩)]; simp)
          replace hlt := Lib.hid hlt
          go_wp2_with fail
          go_quiet (first | (go_at_call 28; exact Calls.quiet_of_same (Make3_at z2 z _ hdl _)))
          go_wp2_with fail
          refine (Hf.out ks _ z false (hSd.out _) hkl2.out).mono ?_; rintro e w5 ⟨rfl, S5⟩
          replace S5 := Lib.hid S5
          go_wp2_with (refine wpCut (k := 1) E3 Hp.out rfl rfl ?_)
          go_roundw
          case rel => exact ⟨cutA (some ⟨g, o, none⟩) c1 1, p, c1 - 1, xt, some ⟨g2, o2, none⟩, m1, d1, z2 :: yt, ks ++ [(z, false)], rfl, rfl, by have := Hp.out; omega, hm1, by have := hkl3.out; simp; omega, q1', q2, hE2, S5⟩
          case measure => have := Hp.out; simp; omega

end Go.Proofs.Ytglonedhcljdoaa
