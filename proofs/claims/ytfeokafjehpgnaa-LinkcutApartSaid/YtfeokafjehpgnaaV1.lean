/- The reference's Common, Path, Sum, Least: the plain law; in, Common. -/
import Derived.Test.YtfeokafjehpgnaaU20
namespace Go.Proofs.Ytfeokafjehpgnaa
open Go.RowKit
attribute [local go_sem ↓] Go.wp_at_zero Go.wp_at_succ
theorem way_pre {P : Nat → Nat} {x : Nat} {l : List Nat} (h : K.Way P x l) : ∀ z ∈ l, ∃ l1 l2, l = l1 ++ l2 ∧ K.Way P z l1 := by
  induction h with
  | root h1 h2 => intro z hz; rw [List.mem_singleton] at hz; subst hz; exact ⟨[z], [], rfl, .root h1 h2⟩
  | @down x l h1 h2 h3 ih =>
    intro z hz
    rcases List.mem_append.1 hz with hz | hz
    · obtain ⟨l1, l2, k2, k3⟩ := ih z hz
      exact ⟨l1, l2 ++ [x], by rw [k2]; simp, k3⟩
    · rw [List.mem_singleton] at hz
      subst hz
      exact ⟨l ++ [z], [], by simp, .down h1 h2 h3⟩
theorem way_heads {P : Nat → Nat} {x y z : Nat} {l l' : List Nat} (h : K.Way P x l) (h' : K.Way P y l') (hz : z ∈ l) (hz' : z ∈ l') : l.head? = l'.head? := by
  obtain ⟨a, b, e1, w1⟩ := way_pre h z hz
  obtain ⟨a', b', e2, w2⟩ := way_pre h' z hz'
  have := w1.uniq w2
  subst this
  have hp := way_pos w1
  cases a with
  | nil => simp at hp
  | cons s a => rw [e1, e2]; rfl
theorem cmn_of {P : Nat → Nat} {x y c : Nat} {o l2 lw : List Nat} (h : K.Way P x (o ++ c :: l2)) (hc : K.Way P c (o ++ [c])) (h' : K.Way P y lw) (hm : c ∈ lw) (hd : ∀ z ∈ l2, z ∉ lw) : ∃ oS, lw = o ++ c :: oS ∧ Cmn (o ++ c :: l2) lw c := by
  obtain ⟨a, b, e1, w1⟩ := way_pre h' c hm
  have e2 := w1.uniq hc
  subst e2
  refine ⟨b, by rw [e1]; simp, ⟨o, l2, b, rfl, by rw [e1]; simp, fun z hz hz2 => hd z hz2 (by rw [e1]; simp [hz])⟩⟩
theorem cmn_lt {o3 o4 oS p3 p4 pS : List Nat} {c c' : Nat} (h1 : o3 ++ c :: o4 = p3 ++ c' :: p4) (h2 : o3 ++ c :: oS = p3 ++ c' :: pS) (hd : ∀ z ∈ oS, z ∉ o4) : ¬ o3.length < p3.length := by
  intro hlt
  have key : ∀ (a b : List Nat), o3 ++ c :: a = p3 ++ c' :: b → c' ∈ a := by
    intro a b e
    have h := congrArg (fun l => l[p3.length]?) e
    simp only [List.getElem?_append_right (Nat.le_refl _), Nat.sub_self, List.getElem?_cons_zero] at h
    rw [List.getElem?_append_right (by omega)] at h
    obtain ⟨k, hk⟩ : ∃ k, p3.length - o3.length = k + 1 := ⟨p3.length - o3.length - 1, by omega⟩
    rw [hk, List.getElem?_cons_succ] at h
    exact List.mem_of_getElem? h
  exact hd c' (key oS pS h2) (key o4 p4 h1)
theorem cmn_uniq {lv lw : List Nat} {c c' : Nat} (h : Cmn lv lw c) (h' : Cmn lv lw c') : c = c' := by
  obtain ⟨o3, o4, oS, a1, a2, a3⟩ := h.ex
  obtain ⟨p3, p4, pS, b1, b2, b3⟩ := h'.ex
  have e1 := a1.symm.trans b1
  have e2 := a2.symm.trans b2
  have n1 := cmn_lt e1 e2 a3
  have n2 := cmn_lt e1.symm e2.symm b3
  have hl : o3.length = p3.length := by omega
  have := List.append_inj e1 hl
  have h3 := this.2
  injection h3
/-- How many there are from the root down to y. -/
noncomputable def wlen (P : Nat → Nat) (y : Nat) : Nat := by
  classical
  exact if h : ∃ l, Wy P y l then h.choose.length else 0
theorem wy_uniq {P : Nat → Nat} {y : Nat} {l l' : List Nat} (h : Wy P y l) (h' : Wy P y l') : l = l' := by
  rcases h with ⟨a, b⟩ | ⟨a, b⟩
  · rcases h' with ⟨c, d⟩ | ⟨c, d⟩
    · rw [b, d]
    · exact absurd a c
  · rcases h' with ⟨c, d⟩ | ⟨c, d⟩
    · exact absurd c a
    · exact b.uniq d
theorem wlen_eq {P : Nat → Nat} {y : Nat} {l : List Nat} (h : Wy P y l) : wlen P y = l.length := by
  classical
  have hx : ∃ l, Wy P y l := ⟨l, h⟩
  unfold wlen
  rw [dif_pos hx, wy_uniq hx.choose_spec h]
theorem in_any (w : World) {a : Option Addr} {m c : Nat} {xs : List Int} (hp : Rd w a m (ints xs)) (x : Int) :
    Calls Try.prog 45 #[.slice a m c, .int .i64 x] w fun e w' => e = .returned (.bool (decide (x ∈ xs))) ∧ w = w' := by
  have hlen : xs.length = m := by have := hp.len; simpa using this
  have hmax := hp.max
  have Hp := Lib.hid hp
  have HLN := Lib.hid hlen
  clear hp hlen
  go_enter Try.func45, Try.ntmps45
  go_wp2_with fail
  go_loop [5] (fun i => ∃ k : Nat, k ≤ m ∧ i = .int .i64 k ∧ Hid (x ∉ xs.take k)) (fun i => m - (intOf i).toNat)
  case atStart => exact ⟨0, by omega, rfl, Lib.hid (by simp)⟩
  case round =>
    obtain ⟨k, hk, rfl, hno⟩ := hrel
    by_cases hlt : k < m
    · obtain ⟨y, hy⟩ : ∃ y, xs[k]? = some y := ⟨xs[k]'(by rw [HLN.out]; exact hlt), List.getElem?_eq_getElem _⟩
      obtain ⟨b, o, rfl, hc⟩ := Hp.out.cells (by omega)
      have d := hc k (.int .i64 y) (by unfold ints; rw [List.getElem?_map, hy]; rfl)
      have hki : (k : Int) < (m : Int) := by omega
      have HY := Lib.hid hy
      clear hc hy
      by_cases e : y = x
      · subst e
        have hm : Hid (decide (y ∈ xs) = true) := Lib.hid (decide_eq_true (List.mem_of_getElem? HY.out))
        go_wp2_with fail
        go_ret
        rw [hm.out]
        exact ⟨rfl, rfl⟩
      · have HN : Hid (x ∉ xs.take (k + 1)) := Lib.hid (by rw [List.take_add_one, HY.out]; simp [hno.out]; exact fun h => e h.symm)
        go_wp2_with fail
        go_round
        case rel => exact ⟨k + 1, by omega, by go_num, HN⟩
        case measure => simp [intOf]; omega
    · obtain rfl : k = m := by omega
      have hm : Hid (decide (x ∈ xs) = false) := Lib.hid (decide_eq_false (by have := hno.out; rwa [List.take_of_length_le (by rw [HLN.out]; exact Nat.le_refl _)] at this))
      go_wp2_with fail
      go_ret
      rw [hm.out]
      exact ⟨rfl, rfl⟩
theorem mem_dn {l : List Nat} {y : Nat} (h0 : ∀ z ∈ l, z ≠ 0) (y0 : y ≠ 0) : decide (((y : Int) - 1) ∈ dn l.reverse) = decide (y ∈ l) := by
  have : ((y : Int) - 1) ∈ dn l.reverse ↔ y ∈ l := by
    unfold dn
    rw [List.mem_map]
    constructor
    · rintro ⟨z, hz, e⟩
      have : z = y := by omega
      rw [← this]; exact List.mem_reverse.1 hz
    · intro h; exact ⟨y, List.mem_reverse.2 h, rfl⟩
  by_cases h : y ∈ l
  · rw [decide_eq_true h, decide_eq_true (this.2 h)]
  · rw [decide_eq_false h, decide_eq_false (fun e => h (this.1 e))]
section
variable {w : World} {B n : Nat} {wt : Nat → Int} {P : Nat → Nat} {wa pa : Option Addr} {wc pc : Nat}
set_option maxRecDepth 100000 in
set_option maxHeartbeats 1000000 in
theorem refCommon_any (hp : K.Par P (vts n)) (h : RS w B n wt P wa wc pa pc) (hn : n ≤ 60) {v u : Nat} (hv : v < n) (hu : u < n) {lv lw : List Nat} (hlv : K.Way P (v + 1) lv) (hlw : K.Way P (u + 1) lw) :
    Calls Try.prog 16 #[rv n wa wc pa pc, .int .i64 (v : Nat), .int .i64 (u : Nat)] w fun e w' => ∃ y : Nat, e = .returned (.int .i64 ((y : Int) - 1)) ∧ (y = 0 ∧ lv.head? ≠ lw.head? ∨ y ≠ 0 ∧ Cmn lv lw y ∧ lv.head? = lw.head?) ∧ Fr F0 w w' := by
  have HR := Lib.hid h
  have HP := Lib.hid hp
  have HW := Lib.hid (And.intro hlv hlw)
  have hB := Lib.hid (Blk.new w 28 [.slice wa n wc, .slice pa n pc])
  have b0 := hB.out.cell (i := 0) rfl
  have b1 := hB.out.cell (i := 1) rfl
  have hvi : ((v + 1 : Nat) : Int) - 1 = (v : Nat) := by omega
  have HVI := Lib.hid hvi
  obtain ⟨pb, po, hpa, -⟩ := h.ps.cells (by omega)
  subst hpa
  clear h hp hlv hlw hvi
  go_enter Try.func16, Try.ntmps16
  go_wp2_with (go_at_call 33; refine (Up_v HP.out (HR.out.fr0 ((Fr.refl _ _).alloc _)) hu hn HW.out.2).mono ?_; rintro e w1 ⟨a1, c1, rfl, O1, F1⟩; have hx1 := hB.out.fr F1 id; have FF := Lib.hid (((Fr.refl F0 w).alloc (.cells #[.slice wa n wc, .slice (some ⟨pb, po, none⟩) n pc] 28)).trans F1 (fun _ _ h => h)); have x1 := hx1.cell (i := 1) rfl; replace O1 := Lib.hid O1.rd; clear F1 b0 b1 hx1)
  go_loop [8] (fun i => ∃ (y : Nat) (l1 l2 : List Nat), y ≤ n ∧ i = .int .i64 ((y : Int) - 1) ∧ Hid (Wy P y l1 ∧ lv = l1 ++ l2 ∧ ∀ z ∈ l2, z ∉ lw)) (fun i => wlen P (intOf i + 1).toNat)
  case atStart => exact ⟨v + 1, lv, [], by omega, by rw [HVI.out], Lib.hid ⟨.inr ⟨by omega, HW.out.1⟩, by simp, fun z hz => by cases hz⟩⟩
  case round =>
    obtain ⟨y, l1, l2, hy, rfl, HI⟩ := hrel
    by_cases y0 : y = 0
    · subst y0
      have e0 : ((0 : Nat) : Int) - 1 = -1 := by omega
      rw [e0]
      go_wp2_with fail
      go_ret
      refine ⟨0, ret_int (by omega), .inl ⟨rfl, fun hh => ?_⟩, FF.out⟩
      obtain ⟨k1, k2, k3⟩ := HI.out
      have e1 : l1 = [] := by
        rcases k1 with ⟨_, e⟩ | ⟨e, _⟩
        · exact e
        · exact absurd rfl e
      rw [e1, List.nil_append] at k2
      have hpos := way_pos HW.out.1
      cases hl : lv with
      | nil => rw [hl] at hpos; simp at hpos
      | cons t r =>
        rw [hl] at hh
        have h1 : t ∈ lw := List.mem_of_mem_head? (a := t) (by rw [← hh]; rfl)
        exact k3 t (by rw [← k2, hl]; simp) h1
    · obtain ⟨y, rfl⟩ : ∃ k, y = k + 1 := ⟨y - 1, by omega⟩
      have e0 : (((y + 1 : Nat) : Int)) - 1 = (y : Nat) := by omega
      rw [e0]
      obtain ⟨o, ho, hw'⟩ := HI.out.1.step y0
      have hpl := par_le HP.out hy y0
      have hmd := mem_dn (l := lw) (fun z hz => (mem_vts.1 ((way_all HP.out HW.out.2 (mem_succ hu)).1 z hz)).1) y0
      rw [e0] at hmd
      by_cases hm : y + 1 ∈ lw
      · rw [decide_eq_true hm] at hmd
        have HMD := Lib.hid hmd
        clear hmd
        go_wp2_with (go_at_call 45; refine (in_any _ O1.out _).mono ?_; rintro e w2 ⟨rfl, rfl⟩; rw [HMD.out])
        go_ret
        obtain ⟨k1, k2, k3⟩ := HI.out
        have hwy : K.Way P (y + 1) (o ++ [y + 1]) := by
          rcases k1 with ⟨e, _⟩ | ⟨_, k1⟩
          · exact absurd e y0
          · rw [ho] at k1; exact k1
        have elv : lv = o ++ (y + 1) :: l2 := by rw [k2, ho]; simp
        have hlv' := HW.out.1
        rw [elv] at hlv'
        obtain ⟨oS, e5, h6⟩ := cmn_of hlv' hwy HW.out.2 hm k3
        refine ⟨y + 1, ret_int (by omega), .inr ⟨by omega, elv ▸ h6, ?_⟩, FF.out⟩
        exact way_heads HW.out.1 HW.out.2 (by rw [elv]; simp) hm
      · rw [decide_eq_false hm] at hmd
        have HMD := Lib.hid hmd
        have HNX : Hid (Wy P (P (y + 1)) o ∧ lv = o ++ (y + 1) :: l2 ∧ ∀ z ∈ (y + 1) :: l2, z ∉ lw) := Lib.hid ⟨hw', by rw [HI.out.2.1, ho]; simp, fun z hz => by
          rcases List.mem_cons.1 hz with e | e
          · rw [e]; exact hm
          · exact HI.out.2.2 z e⟩
        have dv := (HR.out.fr0 FF.out).ps.at (i := y) (u := .int .i64 ((P (y + 1) : Int) - 1)) (by unfold ints; rw [List.getElem?_map, QL_get (by omega)]; rfl)
        have hyi : (y : Int) < (n : Int) := by omega
        have HWO : Hid (Wy P (y + 1) (o ++ [y + 1])) := Lib.hid (by have := HI.out.1; rwa [ho] at this)
        clear hmd ho hw'
        go_wp2_with (go_at_call 45; refine (in_any _ O1.out _).mono ?_; rintro e w2 ⟨rfl, rfl⟩; rw [HMD.out])
        go_round
        case rel => exact ⟨P (y + 1), o, (y + 1) :: l2, by omega, rfl, HNX⟩
        case measure =>
          have e1 : ((P (y + 1) : Int) - 1 + 1).toNat = P (y + 1) := by omega
          have e2 : ((y : Int) + 1).toNat = y + 1 := by omega
          show wlen P ((P (y + 1) : Int) - 1 + 1).toNat < wlen P ((y : Int) + 1).toNat
          rw [e1, e2, wlen_eq HNX.out.1, wlen_eq HWO.out]
          simp
end
end Go.Proofs.Ytfeokafjehpgnaa
