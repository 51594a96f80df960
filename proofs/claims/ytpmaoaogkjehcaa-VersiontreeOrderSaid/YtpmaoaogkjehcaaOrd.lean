/- VersiontreeOrder: the walk. -/
import Derived.Test.YtpmaoaogkjehcaaX9
import Derived.Test.YtpmaoaogkjehcaaX5
import Derived.Test.YtpmaoaogkjehcaaAgg1
namespace Go.Proofs.Ytpmaoaogkjehcaa
open Go.RowKit

def leqB (P : List Int) (u v : Nat) : Bool := decide (u ∈ chN P v)
theorem leqB_t {P : List Int} {u v : Nat} : leqB P u v = true ↔ u ∈ chN P v := by unfold leqB; simp
theorem leqB_f {P : List Int} {u v : Nat} : leqB P u v = false ↔ u ∉ chN P v := by unfold leqB; simp
set_option maxHeartbeats 1000000 in
theorem leq_any (w : World) (B x b9 b11 : Nat) (sa : Option Addr) (c : Nat) (P : List Int) (h : IX w B x sa c P) (hv : validB P = true) (k9 : One w b9 35 (.pointer (some ⟨x, 0, none⟩))) (k11 : One w b11 4 (.bool true)) (u v : Nat) (hu : u < P.length) (hv2 : v < P.length) :
    Calls Try.prog 23 #[.int .i64 u, .int .i64 v, .pointer (some ⟨b9, 0, none⟩), .pointer (some ⟨b11, 0, none⟩)] w fun e w' => e = .returned (.bool (leqB P u v)) ∧ Fr (onB b11) w w' ∧ One w' b11 4 (.bool true) := by
  have c9 := k9.cell
  have EA : Hid (ancE P u v = (leqB P u v, 0)) := Lib.hid (by unfold ancE; rw [if_pos ⟨⟨by omega, by omega⟩, ⟨by omega, by omega⟩⟩]; rfl)
  go_enter Try.func23, Try.ntmps23
  go_wp2_with fail
  refine (Ancestor_any _ B x sa c P h hv u v).mono ?_; rintro e w1 ⟨rfl, F1⟩
  rw [EA.out]
  replace k11 := k11.fr F1 id
  have c11 := k11.cell
  have f11 := k11.free
  have hF : Fr (onB b11) w (w1.setCell ⟨b11, 0, none⟩ (.bool true)) := (F1.mono (fun _ _ h => h.elim)).setB 0 _
  have k2 := k11.set (.bool true)
  replace hF := Lib.hid hF
  replace k2 := Lib.hid k2
  clear F1
  go_wp2_with fail
  go_ret
  exact ⟨rfl, hF.out, k2.out⟩

theorem Ord_skip (la : Option Addr) (ln lc : Nat) (a b c : Int) (w : World) (hln : ln ≤ 9223372036854775807) (h : 60 < ln) :
    Calls Try.prog 4 #[.slice la ln lc, .int .i64 a, .int .i64 b, .int .i64 c] w fun e w' => e = .returned (.bool true) ∧ Fr F0 w w' := by
  have d1 : decide ((60 : Int) < (ln : Int)) = true := by simp; omega
  replace h := Lib.hid h
  set_option maxRecDepth 100000 in
  go_enter Try.func4, Try.ntmps4
  go_wp2_with fail
  refine (awake_any _).mono ?_; rintro e w1 ⟨rfl, F1⟩
  go_wp2_with fail
  go_ret
  exact ⟨rfl, F1⟩

set_option maxRecDepth 100000 in
set_option maxHeartbeats 8000000 in
theorem Ord_out (la : Option Addr) (ln lc : Nat) (l : List Int) (a b c : Int) (w : World) (hl : Rd w la ln (ints l)) (h1 : ln ≤ 60) (P : List Int) (hP : growP l = P) (hout : ¬ (0 ≤ a ∧ 0 ≤ b ∧ 0 ≤ c ∧ a < P.length ∧ b < P.length ∧ c < P.length)) :
    Calls Try.prog 4 #[.slice la ln lc, .int .i64 a, .int .i64 b, .int .i64 c] w fun e w' => e = .returned (.bool true) ∧ Fr F0 w w' := by
  have d1 : decide ((60 : Int) < (ln : Int)) = false := by simp; omega
  have h1h := Lib.hid h1
  have hv := Lib.hid (show validB P = true by rw [← hP]; exact growP_valid l)
  have HP := Lib.hid hP
  clear h1 hP
  go_enter Try.func4, Try.ntmps4
  go_wp2_with fail
  refine (awake_any _).mono ?_; rintro e w1 ⟨rfl, F1⟩
  go_wp2_with fail
  refine (grown_any la ln lc l _ (hl.fr0 F1) h1h.out).mono ?_; rintro e w2 ⟨x, sa, sc, va, n, c', rfl, HX, Rv, hc', hap, F2⟩
  rw [HP.out] at HX
  have F := F1.trans0 F2
  have W3 : Hid (True) := Lib.hid trivial
  clear F1 F2 hap Rv
  go_wp2_with fail
  have HXa := HX.fr0 (((Fr.refl F0 w2).alloc (.cells #[.pointer (some ⟨x, 0, none⟩)] 35)).alloc (.cells #[.slice va n c'] 24) |>.alloc (.cells #[.bool true] 4))
  have Fa := F.trans0 (((Fr.refl F0 w2).alloc (.cells #[.pointer (some ⟨x, 0, none⟩)] 35)).alloc (.cells #[.slice va n c'] 24) |>.alloc (.cells #[.bool true] 4))
  have k9 : One (((w2.alloc (.cells #[.pointer (some ⟨x, 0, none⟩)] 35)).alloc (.cells #[.slice va n c'] 24)).alloc (.cells #[.bool true] 4)) w2.heap.size 35 (.pointer (some ⟨x, 0, none⟩)) := ((One.new 35 _).alloc _).alloc _
  have k11 : One (((w2.alloc (.cells #[.pointer (some ⟨x, 0, none⟩)] 35)).alloc (.cells #[.slice va n c'] 24)).alloc (.cells #[.bool true] 4)) (w2.heap.size + 1 + 1) 4 (.bool true) := by
    have h := One.new (w := ((w2.alloc (.cells #[.pointer (some ⟨x, 0, none⟩)] 35)).alloc (.cells #[.slice va n c'] 24))) 4 (.bool true)
    simpa using h
  obtain ⟨b9, hb9⟩ : ∃ b9, b9 = w2.heap.size := ⟨_, rfl⟩
  obtain ⟨b11, hb11⟩ : ∃ b11, b11 = b9 + 1 + 1 := ⟨_, rfl⟩
  have hxl := HX.one.lt
  have hsl := Lib.hid HX.own.blk
  have hwl := F.size
  have hx11 : Hid (x ≠ b11) := Lib.hid (by omega)
  have h911 : Hid (b9 ≠ b11) := Lib.hid (by omega)
  have hs11 : Hid (¬ onBlk sa b11) := Lib.hid (fun h => by have := (hsl.out _ h).2; omega)
  have hw11 : Hid (w.heap.size ≤ b11) := Lib.hid (by omega)
  rw [← hb9, ← hb11] at k11
  rw [← hb9] at k9
  simp only [← hb9]
  simp only [← hb11]
  replace HX := HXa
  replace F := Fa
  clear HXa Fa hxl hwl hb11 hb9 hsl W3
  generalize ((w2.alloc (.cells #[.pointer (some ⟨x, 0, none⟩)] 35)).alloc (.cells #[.slice va n c'] 24)).alloc (.cells #[.bool true] 4) = W at *
  have c9 := k9.cell
  refine (Len_any _ _ x sa sc P HX).mono ?_; rintro e w3 ⟨rfl, rfl⟩
  replace F := Lib.hid F
  have hmx := HX.own.max
  go_wp2_with fail
  all_goals first | (exfalso; omega) | (go_ret; exact ⟨rfl, F.out⟩)

set_option maxRecDepth 100000 in
set_option maxHeartbeats 8000000 in
theorem Ord_go (la : Option Addr) (ln lc : Nat) (l : List Int) (a b c : Nat) (w : World) (hl : Rd w la ln (ints l)) (h1 : ln ≤ 60) (P : List Int) (hP : growP l = P) (ha : a < P.length) (hb : b < P.length) (hc : c < P.length) :
    Calls Try.prog 4 #[.slice la ln lc, .int .i64 a, .int .i64 b, .int .i64 c] w fun e w' => e = .returned (.bool true) ∧ Fr F0 w w' := by
  have d1 : decide ((60 : Int) < (ln : Int)) = false := by simp; omega
  have h1h := Lib.hid h1
  have hv := Lib.hid (show validB P = true by rw [← hP]; exact growP_valid l)
  have HP := Lib.hid hP
  have hcom := comV_is hv.out ha hb
  obtain ⟨m, hm⟩ : ∃ m, m = comV P a b := ⟨_, rfl⟩
  rw [← hm] at hcom
  have hm' : comV P b a = m := IsCom.uniq hv.out hb (comV_is hv.out hb ha) hcom.symm
  have EC1 : Hid (comE P a b = ((m : Int), 0)) := Lib.hid (by unfold comE; rw [if_pos ⟨⟨by omega, by omega⟩, ⟨by omega, by omega⟩⟩, hm]; rfl)
  have EC2 : Hid (comE P b a = ((m : Int), 0)) := Lib.hid (by unfold comE; rw [if_pos ⟨⟨by omega, by omega⟩, ⟨by omega, by omega⟩⟩, ← hm']; rfl)
  have ED1 : Hid (depE P a = ((dep P a : Int), 0)) := Lib.hid (by unfold depE; rw [if_pos ⟨by omega, by omega⟩]; rfl)
  have ED2 : Hid (depE P b = ((dep P b : Int), 0)) := Lib.hid (by unfold depE; rw [if_pos ⟨by omega, by omega⟩]; rfl)
  have hml : m < P.length := (chN_lt hv.out ha hcom.1).2
  have L1 : Hid (leqB P a a = true) := Lib.hid (leqB_t.2 (chN_self hv.out ha))
  have L2 : Hid (leqB P 0 a = true) := Lib.hid (leqB_t.2 (root_mem hv.out ha))
  have L3 : Hid (leqB P m a = true) := Lib.hid (leqB_t.2 hcom.1)
  have L4 : Hid (leqB P m b = true) := Lib.hid (leqB_t.2 hcom.2.1)
  have L0 : 0 < P.length := by omega
  replace hcom := Lib.hid hcom
  have bm : ((m : Int) != (m : Int)) = false := by simp
  clear hm hm'
  clear h1 hP
  go_enter Try.func4, Try.ntmps4
  go_wp2_with fail
  refine (awake_any _).mono ?_; rintro e w1 ⟨rfl, F1⟩
  go_wp2_with fail
  refine (grown_any la ln lc l _ (hl.fr0 F1) h1h.out).mono ?_; rintro e w2 ⟨x, sa, sc, va, n, c', rfl, HX, Rv, hc', hap, F2⟩
  rw [HP.out] at HX
  have F := F1.trans0 F2
  have W3 : Hid (True) := Lib.hid trivial
  clear F1 F2 hap Rv
  go_wp2_with fail
  have HXa := HX.fr0 (((Fr.refl F0 w2).alloc (.cells #[.pointer (some ⟨x, 0, none⟩)] 35)).alloc (.cells #[.slice va n c'] 24) |>.alloc (.cells #[.bool true] 4))
  have Fa := F.trans0 (((Fr.refl F0 w2).alloc (.cells #[.pointer (some ⟨x, 0, none⟩)] 35)).alloc (.cells #[.slice va n c'] 24) |>.alloc (.cells #[.bool true] 4))
  have k9 : One (((w2.alloc (.cells #[.pointer (some ⟨x, 0, none⟩)] 35)).alloc (.cells #[.slice va n c'] 24)).alloc (.cells #[.bool true] 4)) w2.heap.size 35 (.pointer (some ⟨x, 0, none⟩)) := ((One.new 35 _).alloc _).alloc _
  have k11 : One (((w2.alloc (.cells #[.pointer (some ⟨x, 0, none⟩)] 35)).alloc (.cells #[.slice va n c'] 24)).alloc (.cells #[.bool true] 4)) (w2.heap.size + 1 + 1) 4 (.bool true) := by
    have h := One.new (w := ((w2.alloc (.cells #[.pointer (some ⟨x, 0, none⟩)] 35)).alloc (.cells #[.slice va n c'] 24))) 4 (.bool true)
    simpa using h
  obtain ⟨b9, hb9⟩ : ∃ b9, b9 = w2.heap.size := ⟨_, rfl⟩
  obtain ⟨b11, hb11⟩ : ∃ b11, b11 = b9 + 1 + 1 := ⟨_, rfl⟩
  have hxl := HX.one.lt
  have hsl := Lib.hid HX.own.blk
  have hwl := F.size
  have hx11 : Hid (x ≠ b11) := Lib.hid (by omega)
  have h911 : Hid (b9 ≠ b11) := Lib.hid (by omega)
  have hs11 : Hid (¬ onBlk sa b11) := Lib.hid (fun h => by have := (hsl.out _ h).2; omega)
  have hw11 : Hid (w.heap.size ≤ b11) := Lib.hid (by omega)
  rw [← hb9, ← hb11] at k11
  rw [← hb9] at k9
  simp only [← hb9]
  simp only [← hb11]
  replace HX := HXa
  replace F := Fa
  clear HXa Fa hxl hwl hb11 hb9 hsl W3
  generalize ((w2.alloc (.cells #[.pointer (some ⟨x, 0, none⟩)] 35)).alloc (.cells #[.slice va n c'] 24)).alloc (.cells #[.bool true] 4) = W at *
  have c9 := k9.cell
  refine (Len_any _ _ x sa sc P HX).mono ?_; rintro e w3 ⟨rfl, rfl⟩
  go_wp2_with fail
  refine (Common_any _ _ x sa sc P HX hv.out a b).mono ?_; rintro e w4 ⟨rfl, FF⟩
  rw [EC1.out]
  replace HX := HX.fr0 FF
  replace k9 := k9.fr FF id
  replace k11 := k11.fr FF id
  replace F := F.trans0 FF
  have c9 := k9.cell
  clear FF
  go_wp2_with fail
  refine (Common_any _ _ x sa sc P HX hv.out b a).mono ?_; rintro e w5 ⟨rfl, FF⟩
  rw [EC2.out]
  replace HX := HX.fr0 FF
  replace k9 := k9.fr FF id
  replace k11 := k11.fr FF id
  replace F := F.trans0 FF
  have c9 := k9.cell
  clear FF
  go_wp2_with fail
  refine (Depth_any _ _ x sa sc P HX a).mono ?_; rintro e w6 ⟨rfl, FF⟩
  rw [ED1.out]
  replace HX := HX.fr0 FF
  replace k9 := k9.fr FF id
  replace k11 := k11.fr FF id
  replace F := F.trans0 FF
  have c9 := k9.cell
  clear FF
  go_wp2_with fail
  refine (Depth_any _ _ x sa sc P HX b).mono ?_; rintro e w7 ⟨rfl, FF⟩
  rw [ED2.out]
  replace HX := HX.fr0 FF
  replace k9 := k9.fr FF id
  replace k11 := k11.fr FF id
  replace F := F.trans0 FF
  have c9 := k9.cell
  clear FF
  go_wp2_with fail
  refine (leq_any _ _ x b9 b11 sa sc P HX hv.out k9 k11 a a ha ha).mono ?_; rintro e w8 ⟨rfl, FF, kk⟩
  rw [L1.out]
  replace HX := HX.fr FF hx11.out (fun j hj hs => by have h1 : j = b11 := hs; rw [h1] at hj; exact hs11.out hj)
  replace k9 := k9.fr FF h911.out
  replace F := F.trans FF (fun j hj hs => by have h1 : j = b11 := hs; have := hw11.out; omega)
  replace k11 := kk
  have c9 := k9.cell
  have c11 := k11.cell
  clear FF kk
  go_wp2_with fail
  refine (leq_any _ _ x b9 b11 sa sc P HX hv.out k9 k11 0 a L0 ha).mono ?_; rintro e w9 ⟨rfl, FF, kk⟩
  rw [L2.out]
  replace HX := HX.fr FF hx11.out (fun j hj hs => by have h1 : j = b11 := hs; rw [h1] at hj; exact hs11.out hj)
  replace k9 := k9.fr FF h911.out
  replace F := F.trans FF (fun j hj hs => by have h1 : j = b11 := hs; have := hw11.out; omega)
  replace k11 := kk
  have c9 := k9.cell
  have c11 := k11.cell
  clear FF kk
  go_wp2_with fail
  refine (leq_any _ _ x b9 b11 sa sc P HX hv.out k9 k11 m a hml ha).mono ?_; rintro e w10 ⟨rfl, FF, kk⟩
  rw [L3.out]
  replace HX := HX.fr FF hx11.out (fun j hj hs => by have h1 : j = b11 := hs; rw [h1] at hj; exact hs11.out hj)
  replace k9 := k9.fr FF h911.out
  replace F := F.trans FF (fun j hj hs => by have h1 : j = b11 := hs; have := hw11.out; omega)
  replace k11 := kk
  have c9 := k9.cell
  have c11 := k11.cell
  clear FF kk
  go_wp2_with fail
  refine (leq_any _ _ x b9 b11 sa sc P HX hv.out k9 k11 m b hml hb).mono ?_; rintro e w11 ⟨rfl, FF, kk⟩
  rw [L4.out]
  replace HX := HX.fr FF hx11.out (fun j hj hs => by have h1 : j = b11 := hs; rw [h1] at hj; exact hs11.out hj)
  replace k9 := k9.fr FF h911.out
  replace F := F.trans FF (fun j hj hs => by have h1 : j = b11 := hs; have := hw11.out; omega)
  replace k11 := kk
  have c9 := k9.cell
  have c11 := k11.cell
  clear FF kk
  go_wp2_with fail
  cases hab : leqB P a b
  · have Hab := Lib.hid hab
    clear hab
    refine (leq_any _ _ x b9 b11 sa sc P HX hv.out k9 k11 a b ha hb).mono ?_; rintro e w12 ⟨rfl, FF, kk⟩
    rw [Hab.out]
    replace HX := HX.fr FF hx11.out (fun j hj hs => by have h1 : j = b11 := hs; rw [h1] at hj; exact hs11.out hj)
    replace k9 := k9.fr FF h911.out
    replace F := F.trans FF (fun j hj hs => by have h1 : j = b11 := hs; have := hw11.out; omega)
    replace k11 := kk
    have c9 := k9.cell
    have c11 := k11.cell
    clear FF kk
    go_wp2_with fail
    cases hca : leqB P c a
    · have Hca := Lib.hid hca
      clear hca
      refine (leq_any _ _ x b9 b11 sa sc P HX hv.out k9 k11 c a hc ha).mono ?_; rintro e w20 ⟨rfl, FF, kk⟩
      rw [Hca.out]
      replace HX := HX.fr FF hx11.out (fun j hj hs => by have h1 : j = b11 := hs; rw [h1] at hj; exact hs11.out hj)
      replace k9 := k9.fr FF h911.out
      replace F := F.trans FF (fun j hj hs => by have h1 : j = b11 := hs; have := hw11.out; omega)
      replace k11 := kk
      have c9 := k9.cell
      have c11 := k11.cell
      clear FF kk
      go_wp2_with fail
      replace F := Lib.hid F
      go_ret
      exact ⟨rfl, F.out⟩
    · have Hca := Lib.hid hca
      clear hca
      refine (leq_any _ _ x b9 b11 sa sc P HX hv.out k9 k11 c a hc ha).mono ?_; rintro e w20 ⟨rfl, FF, kk⟩
      rw [Hca.out]
      replace HX := HX.fr FF hx11.out (fun j hj hs => by have h1 : j = b11 := hs; rw [h1] at hj; exact hs11.out hj)
      replace k9 := k9.fr FF h911.out
      replace F := F.trans FF (fun j hj hs => by have h1 : j = b11 := hs; have := hw11.out; omega)
      replace k11 := kk
      have c9 := k9.cell
      have c11 := k11.cell
      clear FF kk
      go_wp2_with fail
      cases hcb : leqB P c b
      · have Hcb := Lib.hid hcb
        clear hcb
        refine (leq_any _ _ x b9 b11 sa sc P HX hv.out k9 k11 c b hc hb).mono ?_; rintro e w21 ⟨rfl, FF, kk⟩
        rw [Hcb.out]
        replace HX := HX.fr FF hx11.out (fun j hj hs => by have h1 : j = b11 := hs; rw [h1] at hj; exact hs11.out hj)
        replace k9 := k9.fr FF h911.out
        replace F := F.trans FF (fun j hj hs => by have h1 : j = b11 := hs; have := hw11.out; omega)
        replace k11 := kk
        have c9 := k9.cell
        have c11 := k11.cell
        clear FF kk
        go_wp2_with fail
        replace F := Lib.hid F
        go_ret
        exact ⟨rfl, F.out⟩
      · have Hcm : Hid (leqB P c m = true) := Lib.hid (leqB_t.2 (hcom.out.2.2 c (leqB_t.1 Hca.out) (leqB_t.1 hcb)))
        have Hcb := Lib.hid hcb
        clear hcb
        refine (leq_any _ _ x b9 b11 sa sc P HX hv.out k9 k11 c b hc hb).mono ?_; rintro e w21 ⟨rfl, FF, kk⟩
        rw [Hcb.out]
        replace HX := HX.fr FF hx11.out (fun j hj hs => by have h1 : j = b11 := hs; rw [h1] at hj; exact hs11.out hj)
        replace k9 := k9.fr FF h911.out
        replace F := F.trans FF (fun j hj hs => by have h1 : j = b11 := hs; have := hw11.out; omega)
        replace k11 := kk
        have c9 := k9.cell
        have c11 := k11.cell
        clear FF kk
        go_wp2_with fail
        refine (leq_any _ _ x b9 b11 sa sc P HX hv.out k9 k11 c m hc hml).mono ?_; rintro e w22 ⟨rfl, FF, kk⟩
        rw [Hcm.out]
        replace HX := HX.fr FF hx11.out (fun j hj hs => by have h1 : j = b11 := hs; rw [h1] at hj; exact hs11.out hj)
        replace k9 := k9.fr FF h911.out
        replace F := F.trans FF (fun j hj hs => by have h1 : j = b11 := hs; have := hw11.out; omega)
        replace k11 := kk
        have c9 := k9.cell
        have c11 := k11.cell
        clear FF kk
        go_wp2_with fail
        replace F := Lib.hid F
        go_ret
        exact ⟨rfl, F.out⟩
  · have Hab := Lib.hid hab
    have hdle : dep P a ≤ dep P b := (mem_anc hv.out hb (leqB_t.1 hab)).1
    have hma : m = a := IsCom.uniq hv.out ha hcom.out ⟨chN_self hv.out ha, leqB_t.1 hab, fun _ h _ => h⟩
    have hd1 : decide ((dep P b : Int) < (dep P a : Int)) = false := by simp; omega
    have hm1 : ((m : Int) != (a : Int)) = false := by rw [hma]; simp
    replace hma := Lib.hid hma
    replace hdle := Lib.hid hdle
    clear hab
    refine (leq_any _ _ x b9 b11 sa sc P HX hv.out k9 k11 a b ha hb).mono ?_; rintro e w12 ⟨rfl, FF, kk⟩
    rw [Hab.out]
    replace HX := HX.fr FF hx11.out (fun j hj hs => by have h1 : j = b11 := hs; rw [h1] at hj; exact hs11.out hj)
    replace k9 := k9.fr FF h911.out
    replace F := F.trans FF (fun j hj hs => by have h1 : j = b11 := hs; have := hw11.out; omega)
    replace k11 := kk
    have c9 := k9.cell
    have c11 := k11.cell
    clear FF kk
    go_wp2_with fail
    cases hba : leqB P b a
    · have Hba := Lib.hid hba
      clear hba
      refine (leq_any _ _ x b9 b11 sa sc P HX hv.out k9 k11 b a hb ha).mono ?_; rintro e w13 ⟨rfl, FF, kk⟩
      rw [Hba.out]
      replace HX := HX.fr FF hx11.out (fun j hj hs => by have h1 : j = b11 := hs; rw [h1] at hj; exact hs11.out hj)
      replace k9 := k9.fr FF h911.out
      replace F := F.trans FF (fun j hj hs => by have h1 : j = b11 := hs; have := hw11.out; omega)
      replace k11 := kk
      have c9 := k9.cell
      have c11 := k11.cell
      clear FF kk
      go_wp2_with fail
      cases hbc : leqB P b c
      · have Hbc := Lib.hid hbc
        clear hbc
        refine (leq_any _ _ x b9 b11 sa sc P HX hv.out k9 k11 b c hb hc).mono ?_; rintro e w14 ⟨rfl, FF, kk⟩
        rw [Hbc.out]
        replace HX := HX.fr FF hx11.out (fun j hj hs => by have h1 : j = b11 := hs; rw [h1] at hj; exact hs11.out hj)
        replace k9 := k9.fr FF h911.out
        replace F := F.trans FF (fun j hj hs => by have h1 : j = b11 := hs; have := hw11.out; omega)
        replace k11 := kk
        have c9 := k9.cell
        have c11 := k11.cell
        clear FF kk
        go_wp2_with fail
        cases hca : leqB P c a
        · have Hca := Lib.hid hca
          clear hca
          refine (leq_any _ _ x b9 b11 sa sc P HX hv.out k9 k11 c a hc ha).mono ?_; rintro e w20 ⟨rfl, FF, kk⟩
          rw [Hca.out]
          replace HX := HX.fr FF hx11.out (fun j hj hs => by have h1 : j = b11 := hs; rw [h1] at hj; exact hs11.out hj)
          replace k9 := k9.fr FF h911.out
          replace F := F.trans FF (fun j hj hs => by have h1 : j = b11 := hs; have := hw11.out; omega)
          replace k11 := kk
          have c9 := k9.cell
          have c11 := k11.cell
          clear FF kk
          go_wp2_with fail
          replace F := Lib.hid F
          go_ret
          exact ⟨rfl, F.out⟩
        · have Hca := Lib.hid hca
          clear hca
          refine (leq_any _ _ x b9 b11 sa sc P HX hv.out k9 k11 c a hc ha).mono ?_; rintro e w20 ⟨rfl, FF, kk⟩
          rw [Hca.out]
          replace HX := HX.fr FF hx11.out (fun j hj hs => by have h1 : j = b11 := hs; rw [h1] at hj; exact hs11.out hj)
          replace k9 := k9.fr FF h911.out
          replace F := F.trans FF (fun j hj hs => by have h1 : j = b11 := hs; have := hw11.out; omega)
          replace k11 := kk
          have c9 := k9.cell
          have c11 := k11.cell
          clear FF kk
          go_wp2_with fail
          cases hcb : leqB P c b
          · have Hcb := Lib.hid hcb
            clear hcb
            refine (leq_any _ _ x b9 b11 sa sc P HX hv.out k9 k11 c b hc hb).mono ?_; rintro e w21 ⟨rfl, FF, kk⟩
            rw [Hcb.out]
            replace HX := HX.fr FF hx11.out (fun j hj hs => by have h1 : j = b11 := hs; rw [h1] at hj; exact hs11.out hj)
            replace k9 := k9.fr FF h911.out
            replace F := F.trans FF (fun j hj hs => by have h1 : j = b11 := hs; have := hw11.out; omega)
            replace k11 := kk
            have c9 := k9.cell
            have c11 := k11.cell
            clear FF kk
            go_wp2_with fail
            replace F := Lib.hid F
            go_ret
            exact ⟨rfl, F.out⟩
          · have Hcm : Hid (leqB P c m = true) := Lib.hid (leqB_t.2 (hcom.out.2.2 c (leqB_t.1 Hca.out) (leqB_t.1 hcb)))
            have Hcb := Lib.hid hcb
            clear hcb
            refine (leq_any _ _ x b9 b11 sa sc P HX hv.out k9 k11 c b hc hb).mono ?_; rintro e w21 ⟨rfl, FF, kk⟩
            rw [Hcb.out]
            replace HX := HX.fr FF hx11.out (fun j hj hs => by have h1 : j = b11 := hs; rw [h1] at hj; exact hs11.out hj)
            replace k9 := k9.fr FF h911.out
            replace F := F.trans FF (fun j hj hs => by have h1 : j = b11 := hs; have := hw11.out; omega)
            replace k11 := kk
            have c9 := k9.cell
            have c11 := k11.cell
            clear FF kk
            go_wp2_with fail
            refine (leq_any _ _ x b9 b11 sa sc P HX hv.out k9 k11 c m hc hml).mono ?_; rintro e w22 ⟨rfl, FF, kk⟩
            rw [Hcm.out]
            replace HX := HX.fr FF hx11.out (fun j hj hs => by have h1 : j = b11 := hs; rw [h1] at hj; exact hs11.out hj)
            replace k9 := k9.fr FF h911.out
            replace F := F.trans FF (fun j hj hs => by have h1 : j = b11 := hs; have := hw11.out; omega)
            replace k11 := kk
            have c9 := k9.cell
            have c11 := k11.cell
            clear FF kk
            go_wp2_with fail
            replace F := Lib.hid F
            go_ret
            exact ⟨rfl, F.out⟩
      · have Hac : Hid (leqB P a c = true) := Lib.hid (leqB_t.2 (chN_trans hv.out hc (leqB_t.1 hbc) (leqB_t.1 Hab.out)))
        have Hbc := Lib.hid hbc
        clear hbc
        refine (leq_any _ _ x b9 b11 sa sc P HX hv.out k9 k11 b c hb hc).mono ?_; rintro e w14 ⟨rfl, FF, kk⟩
        rw [Hbc.out]
        replace HX := HX.fr FF hx11.out (fun j hj hs => by have h1 : j = b11 := hs; rw [h1] at hj; exact hs11.out hj)
        replace k9 := k9.fr FF h911.out
        replace F := F.trans FF (fun j hj hs => by have h1 : j = b11 := hs; have := hw11.out; omega)
        replace k11 := kk
        have c9 := k9.cell
        have c11 := k11.cell
        clear FF kk
        go_wp2_with fail
        refine (leq_any _ _ x b9 b11 sa sc P HX hv.out k9 k11 a c ha hc).mono ?_; rintro e w15 ⟨rfl, FF, kk⟩
        rw [Hac.out]
        replace HX := HX.fr FF hx11.out (fun j hj hs => by have h1 : j = b11 := hs; rw [h1] at hj; exact hs11.out hj)
        replace k9 := k9.fr FF h911.out
        replace F := F.trans FF (fun j hj hs => by have h1 : j = b11 := hs; have := hw11.out; omega)
        replace k11 := kk
        have c9 := k9.cell
        have c11 := k11.cell
        clear FF kk
        go_wp2_with fail
        cases hca : leqB P c a
        · have Hca := Lib.hid hca
          clear hca
          refine (leq_any _ _ x b9 b11 sa sc P HX hv.out k9 k11 c a hc ha).mono ?_; rintro e w20 ⟨rfl, FF, kk⟩
          rw [Hca.out]
          replace HX := HX.fr FF hx11.out (fun j hj hs => by have h1 : j = b11 := hs; rw [h1] at hj; exact hs11.out hj)
          replace k9 := k9.fr FF h911.out
          replace F := F.trans FF (fun j hj hs => by have h1 : j = b11 := hs; have := hw11.out; omega)
          replace k11 := kk
          have c9 := k9.cell
          have c11 := k11.cell
          clear FF kk
          go_wp2_with fail
          replace F := Lib.hid F
          go_ret
          exact ⟨rfl, F.out⟩
        · have Hca := Lib.hid hca
          clear hca
          refine (leq_any _ _ x b9 b11 sa sc P HX hv.out k9 k11 c a hc ha).mono ?_; rintro e w20 ⟨rfl, FF, kk⟩
          rw [Hca.out]
          replace HX := HX.fr FF hx11.out (fun j hj hs => by have h1 : j = b11 := hs; rw [h1] at hj; exact hs11.out hj)
          replace k9 := k9.fr FF h911.out
          replace F := F.trans FF (fun j hj hs => by have h1 : j = b11 := hs; have := hw11.out; omega)
          replace k11 := kk
          have c9 := k9.cell
          have c11 := k11.cell
          clear FF kk
          go_wp2_with fail
          cases hcb : leqB P c b
          · have Hcb := Lib.hid hcb
            clear hcb
            refine (leq_any _ _ x b9 b11 sa sc P HX hv.out k9 k11 c b hc hb).mono ?_; rintro e w21 ⟨rfl, FF, kk⟩
            rw [Hcb.out]
            replace HX := HX.fr FF hx11.out (fun j hj hs => by have h1 : j = b11 := hs; rw [h1] at hj; exact hs11.out hj)
            replace k9 := k9.fr FF h911.out
            replace F := F.trans FF (fun j hj hs => by have h1 : j = b11 := hs; have := hw11.out; omega)
            replace k11 := kk
            have c9 := k9.cell
            have c11 := k11.cell
            clear FF kk
            go_wp2_with fail
            replace F := Lib.hid F
            go_ret
            exact ⟨rfl, F.out⟩
          · have Hcm : Hid (leqB P c m = true) := Lib.hid (leqB_t.2 (hcom.out.2.2 c (leqB_t.1 Hca.out) (leqB_t.1 hcb)))
            have Hcb := Lib.hid hcb
            clear hcb
            refine (leq_any _ _ x b9 b11 sa sc P HX hv.out k9 k11 c b hc hb).mono ?_; rintro e w21 ⟨rfl, FF, kk⟩
            rw [Hcb.out]
            replace HX := HX.fr FF hx11.out (fun j hj hs => by have h1 : j = b11 := hs; rw [h1] at hj; exact hs11.out hj)
            replace k9 := k9.fr FF h911.out
            replace F := F.trans FF (fun j hj hs => by have h1 : j = b11 := hs; have := hw11.out; omega)
            replace k11 := kk
            have c9 := k9.cell
            have c11 := k11.cell
            clear FF kk
            go_wp2_with fail
            refine (leq_any _ _ x b9 b11 sa sc P HX hv.out k9 k11 c m hc hml).mono ?_; rintro e w22 ⟨rfl, FF, kk⟩
            rw [Hcm.out]
            replace HX := HX.fr FF hx11.out (fun j hj hs => by have h1 : j = b11 := hs; rw [h1] at hj; exact hs11.out hj)
            replace k9 := k9.fr FF h911.out
            replace F := F.trans FF (fun j hj hs => by have h1 : j = b11 := hs; have := hw11.out; omega)
            replace k11 := kk
            have c9 := k9.cell
            have c11 := k11.cell
            clear FF kk
            go_wp2_with fail
            replace F := Lib.hid F
            go_ret
            exact ⟨rfl, F.out⟩
    · have Hba := Lib.hid hba
      have heq : a = b := chN_eq hv.out hb (leqB_t.1 Hab.out) (by have := (mem_anc hv.out ha (leqB_t.1 hba)).1; have := hdle.out; omega)
      have hn1 : ((a : Int) != (b : Int)) = false := by rw [heq]; simp
      replace heq := Lib.hid heq
      clear hba
      refine (leq_any _ _ x b9 b11 sa sc P HX hv.out k9 k11 b a hb ha).mono ?_; rintro e w13 ⟨rfl, FF, kk⟩
      rw [Hba.out]
      replace HX := HX.fr FF hx11.out (fun j hj hs => by have h1 : j = b11 := hs; rw [h1] at hj; exact hs11.out hj)
      replace k9 := k9.fr FF h911.out
      replace F := F.trans FF (fun j hj hs => by have h1 : j = b11 := hs; have := hw11.out; omega)
      replace k11 := kk
      have c9 := k9.cell
      have c11 := k11.cell
      clear FF kk
      go_wp2_with fail
      cases hbc : leqB P b c
      · have Hbc := Lib.hid hbc
        clear hbc
        refine (leq_any _ _ x b9 b11 sa sc P HX hv.out k9 k11 b c hb hc).mono ?_; rintro e w14 ⟨rfl, FF, kk⟩
        rw [Hbc.out]
        replace HX := HX.fr FF hx11.out (fun j hj hs => by have h1 : j = b11 := hs; rw [h1] at hj; exact hs11.out hj)
        replace k9 := k9.fr FF h911.out
        replace F := F.trans FF (fun j hj hs => by have h1 : j = b11 := hs; have := hw11.out; omega)
        replace k11 := kk
        have c9 := k9.cell
        have c11 := k11.cell
        clear FF kk
        go_wp2_with fail
        cases hca : leqB P c a
        · have Hca := Lib.hid hca
          clear hca
          refine (leq_any _ _ x b9 b11 sa sc P HX hv.out k9 k11 c a hc ha).mono ?_; rintro e w20 ⟨rfl, FF, kk⟩
          rw [Hca.out]
          replace HX := HX.fr FF hx11.out (fun j hj hs => by have h1 : j = b11 := hs; rw [h1] at hj; exact hs11.out hj)
          replace k9 := k9.fr FF h911.out
          replace F := F.trans FF (fun j hj hs => by have h1 : j = b11 := hs; have := hw11.out; omega)
          replace k11 := kk
          have c9 := k9.cell
          have c11 := k11.cell
          clear FF kk
          go_wp2_with fail
          replace F := Lib.hid F
          go_ret
          exact ⟨rfl, F.out⟩
        · have Hca := Lib.hid hca
          clear hca
          refine (leq_any _ _ x b9 b11 sa sc P HX hv.out k9 k11 c a hc ha).mono ?_; rintro e w20 ⟨rfl, FF, kk⟩
          rw [Hca.out]
          replace HX := HX.fr FF hx11.out (fun j hj hs => by have h1 : j = b11 := hs; rw [h1] at hj; exact hs11.out hj)
          replace k9 := k9.fr FF h911.out
          replace F := F.trans FF (fun j hj hs => by have h1 : j = b11 := hs; have := hw11.out; omega)
          replace k11 := kk
          have c9 := k9.cell
          have c11 := k11.cell
          clear FF kk
          go_wp2_with fail
          cases hcb : leqB P c b
          · have Hcb := Lib.hid hcb
            clear hcb
            refine (leq_any _ _ x b9 b11 sa sc P HX hv.out k9 k11 c b hc hb).mono ?_; rintro e w21 ⟨rfl, FF, kk⟩
            rw [Hcb.out]
            replace HX := HX.fr FF hx11.out (fun j hj hs => by have h1 : j = b11 := hs; rw [h1] at hj; exact hs11.out hj)
            replace k9 := k9.fr FF h911.out
            replace F := F.trans FF (fun j hj hs => by have h1 : j = b11 := hs; have := hw11.out; omega)
            replace k11 := kk
            have c9 := k9.cell
            have c11 := k11.cell
            clear FF kk
            go_wp2_with fail
            replace F := Lib.hid F
            go_ret
            exact ⟨rfl, F.out⟩
          · have Hcm : Hid (leqB P c m = true) := Lib.hid (leqB_t.2 (hcom.out.2.2 c (leqB_t.1 Hca.out) (leqB_t.1 hcb)))
            have Hcb := Lib.hid hcb
            clear hcb
            refine (leq_any _ _ x b9 b11 sa sc P HX hv.out k9 k11 c b hc hb).mono ?_; rintro e w21 ⟨rfl, FF, kk⟩
            rw [Hcb.out]
            replace HX := HX.fr FF hx11.out (fun j hj hs => by have h1 : j = b11 := hs; rw [h1] at hj; exact hs11.out hj)
            replace k9 := k9.fr FF h911.out
            replace F := F.trans FF (fun j hj hs => by have h1 : j = b11 := hs; have := hw11.out; omega)
            replace k11 := kk
            have c9 := k9.cell
            have c11 := k11.cell
            clear FF kk
            go_wp2_with fail
            refine (leq_any _ _ x b9 b11 sa sc P HX hv.out k9 k11 c m hc hml).mono ?_; rintro e w22 ⟨rfl, FF, kk⟩
            rw [Hcm.out]
            replace HX := HX.fr FF hx11.out (fun j hj hs => by have h1 : j = b11 := hs; rw [h1] at hj; exact hs11.out hj)
            replace k9 := k9.fr FF h911.out
            replace F := F.trans FF (fun j hj hs => by have h1 : j = b11 := hs; have := hw11.out; omega)
            replace k11 := kk
            have c9 := k9.cell
            have c11 := k11.cell
            clear FF kk
            go_wp2_with fail
            replace F := Lib.hid F
            go_ret
            exact ⟨rfl, F.out⟩
      · have Hac : Hid (leqB P a c = true) := Lib.hid (leqB_t.2 (chN_trans hv.out hc (leqB_t.1 hbc) (leqB_t.1 Hab.out)))
        have Hbc := Lib.hid hbc
        clear hbc
        refine (leq_any _ _ x b9 b11 sa sc P HX hv.out k9 k11 b c hb hc).mono ?_; rintro e w14 ⟨rfl, FF, kk⟩
        rw [Hbc.out]
        replace HX := HX.fr FF hx11.out (fun j hj hs => by have h1 : j = b11 := hs; rw [h1] at hj; exact hs11.out hj)
        replace k9 := k9.fr FF h911.out
        replace F := F.trans FF (fun j hj hs => by have h1 : j = b11 := hs; have := hw11.out; omega)
        replace k11 := kk
        have c9 := k9.cell
        have c11 := k11.cell
        clear FF kk
        go_wp2_with fail
        refine (leq_any _ _ x b9 b11 sa sc P HX hv.out k9 k11 a c ha hc).mono ?_; rintro e w15 ⟨rfl, FF, kk⟩
        rw [Hac.out]
        replace HX := HX.fr FF hx11.out (fun j hj hs => by have h1 : j = b11 := hs; rw [h1] at hj; exact hs11.out hj)
        replace k9 := k9.fr FF h911.out
        replace F := F.trans FF (fun j hj hs => by have h1 : j = b11 := hs; have := hw11.out; omega)
        replace k11 := kk
        have c9 := k9.cell
        have c11 := k11.cell
        clear FF kk
        go_wp2_with fail
        cases hca : leqB P c a
        · have Hca := Lib.hid hca
          clear hca
          refine (leq_any _ _ x b9 b11 sa sc P HX hv.out k9 k11 c a hc ha).mono ?_; rintro e w20 ⟨rfl, FF, kk⟩
          rw [Hca.out]
          replace HX := HX.fr FF hx11.out (fun j hj hs => by have h1 : j = b11 := hs; rw [h1] at hj; exact hs11.out hj)
          replace k9 := k9.fr FF h911.out
          replace F := F.trans FF (fun j hj hs => by have h1 : j = b11 := hs; have := hw11.out; omega)
          replace k11 := kk
          have c9 := k9.cell
          have c11 := k11.cell
          clear FF kk
          go_wp2_with fail
          replace F := Lib.hid F
          go_ret
          exact ⟨rfl, F.out⟩
        · have Hca := Lib.hid hca
          clear hca
          refine (leq_any _ _ x b9 b11 sa sc P HX hv.out k9 k11 c a hc ha).mono ?_; rintro e w20 ⟨rfl, FF, kk⟩
          rw [Hca.out]
          replace HX := HX.fr FF hx11.out (fun j hj hs => by have h1 : j = b11 := hs; rw [h1] at hj; exact hs11.out hj)
          replace k9 := k9.fr FF h911.out
          replace F := F.trans FF (fun j hj hs => by have h1 : j = b11 := hs; have := hw11.out; omega)
          replace k11 := kk
          have c9 := k9.cell
          have c11 := k11.cell
          clear FF kk
          go_wp2_with fail
          cases hcb : leqB P c b
          · have Hcb := Lib.hid hcb
            clear hcb
            refine (leq_any _ _ x b9 b11 sa sc P HX hv.out k9 k11 c b hc hb).mono ?_; rintro e w21 ⟨rfl, FF, kk⟩
            rw [Hcb.out]
            replace HX := HX.fr FF hx11.out (fun j hj hs => by have h1 : j = b11 := hs; rw [h1] at hj; exact hs11.out hj)
            replace k9 := k9.fr FF h911.out
            replace F := F.trans FF (fun j hj hs => by have h1 : j = b11 := hs; have := hw11.out; omega)
            replace k11 := kk
            have c9 := k9.cell
            have c11 := k11.cell
            clear FF kk
            go_wp2_with fail
            replace F := Lib.hid F
            go_ret
            exact ⟨rfl, F.out⟩
          · have Hcm : Hid (leqB P c m = true) := Lib.hid (leqB_t.2 (hcom.out.2.2 c (leqB_t.1 Hca.out) (leqB_t.1 hcb)))
            have Hcb := Lib.hid hcb
            clear hcb
            refine (leq_any _ _ x b9 b11 sa sc P HX hv.out k9 k11 c b hc hb).mono ?_; rintro e w21 ⟨rfl, FF, kk⟩
            rw [Hcb.out]
            replace HX := HX.fr FF hx11.out (fun j hj hs => by have h1 : j = b11 := hs; rw [h1] at hj; exact hs11.out hj)
            replace k9 := k9.fr FF h911.out
            replace F := F.trans FF (fun j hj hs => by have h1 : j = b11 := hs; have := hw11.out; omega)
            replace k11 := kk
            have c9 := k9.cell
            have c11 := k11.cell
            clear FF kk
            go_wp2_with fail
            refine (leq_any _ _ x b9 b11 sa sc P HX hv.out k9 k11 c m hc hml).mono ?_; rintro e w22 ⟨rfl, FF, kk⟩
            rw [Hcm.out]
            replace HX := HX.fr FF hx11.out (fun j hj hs => by have h1 : j = b11 := hs; rw [h1] at hj; exact hs11.out hj)
            replace k9 := k9.fr FF h911.out
            replace F := F.trans FF (fun j hj hs => by have h1 : j = b11 := hs; have := hw11.out; omega)
            replace k11 := kk
            have c9 := k9.cell
            have c11 := k11.cell
            clear FF kk
            go_wp2_with fail
            replace F := Lib.hid F
            go_ret
            exact ⟨rfl, F.out⟩

theorem LOrd_any (la : Option Addr) (ln lc : Nat) (l : List Int) (a b c : Int) (w : World) (hl : ArgSl w la ln lc l) :
    Calls Try.prog 4 #[.slice la ln lc, .int .i64 a, .int .i64 b, .int .i64 c] w fun e w' => e = .returned (.bool true) ∧ Fr F0 w w' := by
  by_cases h1 : 60 < ln
  · exact Ord_skip la ln lc a b c w hl.rd.max h1
  · by_cases h : 0 ≤ a ∧ 0 ≤ b ∧ 0 ≤ c ∧ a < (growP l).length ∧ b < (growP l).length ∧ c < (growP l).length
    · obtain ⟨a0, b0, c0, a1, b1, c1⟩ := h
      obtain ⟨i, rfl⟩ := Int.eq_ofNat_of_zero_le a0
      obtain ⟨j, rfl⟩ := Int.eq_ofNat_of_zero_le b0
      obtain ⟨k, rfl⟩ := Int.eq_ofNat_of_zero_le c0
      exact Ord_go la ln lc l i j k w hl.rd (by omega) _ rfl (by omega) (by omega) (by omega)
    · exact Ord_out la ln lc l a b c w hl.rd (by omega) _ rfl h

end Go.Proofs.Ytpmaoaogkjehcaa
