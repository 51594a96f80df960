/- The ring: plain law. -/
import Derived.Test.YtnlgjpcnnnilpaaR1
namespace Go.Proofs.Ytnlgjpcnnnilpaa
open Go.RowKit

/-- The path P is linked by NX and PV. -/
def Lk (NX PV : List Nat) : List Nat → Prop
  | a :: b :: r => NX[a]? = some b ∧ PV[b]? = some a ∧ Lk NX PV (b :: r)
  | _ => True
theorem Lk.congr {NX PV NX' PV' : List Nat} : ∀ {P : List Nat}, Lk NX PV P → (∀ a ∈ P.dropLast, NX'[a]? = NX[a]?) → (∀ b ∈ P.tail, PV'[b]? = PV[b]?) → Lk NX' PV' P
  | [], _, _, _ => trivial
  | [_], _, _, _ => trivial
  | a :: b :: r, h, h1, h2 => by
    obtain ⟨e1, e2, e3⟩ := h
    refine ⟨(h1 a (by simp)).trans e1, (h2 b (by simp)).trans e2, Lk.congr e3 (fun c hc => h1 c (by simp [hc])) (fun c hc => h2 c ?_)⟩
    simp only [List.tail_cons] at hc ⊢
    exact List.mem_cons_of_mem _ hc
/-- A link taken out: what stands before and behind it is linked. -/
theorem Lk.cut {NX PV : List Nat} {p i n : Nat} : ∀ (A C : List Nat), Lk NX PV (A ++ p :: i :: n :: C) → (A ++ p :: i :: n :: C).dropLast.Nodup → (A ++ p :: i :: n :: C).tail.Nodup →
    Lk (NX.set p n) (PV.set n p) (A ++ p :: n :: C)
  | [], C, h, h1, h2 => by
    obtain ⟨e1, e2, e3, e4, e5⟩ := h
    have hp := (List.getElem?_eq_some_iff.1 e1).1
    have hn := (List.getElem?_eq_some_iff.1 e4).1
    simp only [List.nil_append, List.tail_cons, List.dropLast_cons_cons] at h1 h2
    refine ⟨List.getElem?_set_self hp, List.getElem?_set_self hn, Lk.congr e5 (fun a ha => List.getElem?_set_ne ?_) (fun b hb => List.getElem?_set_ne ?_)⟩
    · rintro rfl
      exact (List.nodup_cons.1 h1).1 (by simp [ha])
    · rintro rfl
      exact (List.nodup_cons.1 (List.nodup_cons.1 h2).2).1 hb
  | a :: A, C, h, h1, h2 => by
    cases A with
    | nil =>
      obtain ⟨e1, e2, e3⟩ := h
      have ih := Lk.cut [] C e3 (by simp only [List.cons_append, List.nil_append, List.dropLast_cons_cons] at h1 ⊢; exact (List.nodup_cons.1 h1).2) (by simp only [List.cons_append, List.nil_append, List.tail_cons] at h2 ⊢; exact (List.nodup_cons.1 h2).2)
      refine ⟨(List.getElem?_set_ne ?_).trans e1, (List.getElem?_set_ne ?_).trans e2, ih⟩
      · rintro rfl
        simp at h1
      · rintro rfl
        simp at h2
    | cons a2 A =>
      obtain ⟨e1, e2, e3⟩ := h
      have ih := Lk.cut (a2 :: A) C e3 (by simp only [List.cons_append, List.dropLast_cons_cons] at h1 ⊢; exact (List.nodup_cons.1 h1).2) (by simp only [List.cons_append, List.tail_cons] at h2 ⊢; exact (List.nodup_cons.1 h2).2)
      refine ⟨(List.getElem?_set_ne ?_).trans e1, (List.getElem?_set_ne ?_).trans e2, ih⟩
      · rintro rfl
        have := (List.nodup_cons.1 h1).1
        apply this
        show p ∈ (a2 :: A ++ p :: i :: n :: C).dropLast
        rw [show a2 :: A ++ p :: i :: n :: C = (a2 :: A ++ [p]) ++ (i :: n :: C) by simp, List.dropLast_append_of_ne_nil (by simp)]
        simp
      · rintro rfl
        simp only [List.cons_append, List.tail_cons] at h2
        exact (List.nodup_cons.1 h2).1 (by simp)
/-- A link put behind the anchor. -/
theorem Lk.front {NX PV : List Nat} {i h : Nat} {r : List Nat} (hL : Lk NX PV (0 :: h :: r)) (h0 : 0 ∉ (h :: r).dropLast) (h2 : (h :: r).Nodup) (hi : i ∉ h :: r) (hi0 : i ≠ 0) (hl1 : i < NX.length) (hl2 : i < PV.length) :
    Lk ((NX.set i h).set 0 i) (((PV.set i 0).set h i)) (0 :: i :: h :: r) := by
  obtain ⟨e1, e2, e3⟩ := hL
  have hN := (List.getElem?_eq_some_iff.1 e1).1
  have hP := (List.getElem?_eq_some_iff.1 e2).1
  have hih : h ≠ i := fun e => hi (by simp [e])
  refine ⟨List.getElem?_set_self (by simpa using hN), ?_, ?_, List.getElem?_set_self (by simpa using hP), Lk.congr e3 (fun a ha => ?_) (fun b hb => ?_)⟩
  · rw [List.getElem?_set_ne hih, List.getElem?_set_self hl2]
  · rw [List.getElem?_set_ne (fun e => hi0 e.symm), List.getElem?_set_self hl1]
  · rw [List.getElem?_set_ne (fun e => h0 (by rw [e]; exact ha)), List.getElem?_set_ne (fun e => hi (by rw [e]; exact List.dropLast_subset _ ha))]
  · simp only [List.tail_cons] at hb
    rw [List.getElem?_set_ne (fun e => (List.nodup_cons.1 h2).1 (by rw [e]; exact hb)), List.getElem?_set_ne (fun e => hi (by rw [e]; exact List.mem_cons_of_mem _ hb))]

/-- The ring of s slots holds the blocks K, the last one that was referenced first. -/
structure Ring (s : Nat) (BL : List Int) (NX PV : List Nat) (f : Int → Option Value) (S : List Nat) (K : List Int) : Prop where
  mem : ∀ i, i ∈ S ↔ 1 ≤ i ∧ i ≤ s
  nd : S.Nodup
  lk : Lk NX PV (0 :: S ++ [0])
  bk : K = S.map fun i => BL.getD i 0
  knd : K.Nodup
  fin : ∀ i ∈ S, f (BL.getD i 0) = some (.int .i64 (i : Nat))
  fout : ∀ b, b ∉ K → f b = none
  lb : BL.length = s + 1
  ln : NX.length = s + 1
  lp : PV.length = s + 1
theorem Ring.len {s : Nat} {BL : List Int} {NX PV : List Nat} {f : Int → Option Value} {S : List Nat} {K : List Int} (h : Ring s BL NX PV f S K) : S.length = s := by
  have hp : S.Perm ((List.range s).map (· + 1)) := by
    rw [List.perm_ext_iff_of_nodup h.nd (List.nodup_range.map (f := (· + 1)) (fun a b hab e => hab (by omega)))]
    intro i
    rw [h.mem]
    simp only [List.mem_map, List.mem_range]
    constructor
    · rintro ⟨h1, h2⟩; exact ⟨i - 1, by omega, by omega⟩
    · rintro ⟨j, hj, rfl⟩; omega
  have := hp.length_eq
  simpa using this

theorem path_cut {NX PV : List Nat} {A C : List Nat} {i : Nat} (hL : Lk NX PV (0 :: (A ++ i :: C) ++ [0])) (hn : (A ++ i :: C).Nodup) (h0 : 0 ∉ A ++ i :: C) :
    ∃ p n, NX[i]? = some n ∧ PV[i]? = some p ∧ p ∈ 0 :: A ∧ n ∈ C ++ [0] ∧ Lk (NX.set p n) (PV.set n p) (0 :: (A ++ C) ++ [0]) := by
  obtain ⟨A', p, hA⟩ : ∃ A' p, 0 :: A = A' ++ [p] := ⟨(0 :: A).dropLast, (0 :: A).getLast (by simp), (List.dropLast_concat_getLast (by simp)).symm⟩
  obtain ⟨n, C', hC⟩ : ∃ n C', C ++ [0] = n :: C' := by
    cases C with
    | nil => exact ⟨0, [], rfl⟩
    | cons c C => exact ⟨c, C ++ [0], rfl⟩
  have e1 : 0 :: (A ++ i :: C) ++ [0] = A' ++ p :: i :: n :: C' := by
    have : 0 :: (A ++ i :: C) ++ [0] = (0 :: A) ++ i :: (C ++ [0]) := by simp
    rw [this, hA, hC]; simp
  have e2 : 0 :: (A ++ C) ++ [0] = A' ++ p :: n :: C' := by
    have : 0 :: (A ++ C) ++ [0] = (0 :: A) ++ (C ++ [0]) := by simp
    rw [this, hA, hC]; simp
  have d1 : (A' ++ p :: i :: n :: C').dropLast.Nodup := by
    rw [← e1, List.dropLast_concat]
    exact List.nodup_cons.2 ⟨h0, hn⟩
  have d2 : (A' ++ p :: i :: n :: C').tail.Nodup := by
    rw [← e1]
    show (A ++ i :: C ++ [0]).Nodup
    rw [List.nodup_append]
    refine ⟨hn, by simp, fun a ha b hb => ?_⟩
    simp at hb
    subst hb
    rintro rfl
    exact h0 ha
  have key : ∀ A'' : List Nat, Lk NX PV (A'' ++ p :: i :: n :: C') → NX[i]? = some n ∧ PV[i]? = some p := by
    intro A''
    induction A'' with
    | nil => intro h; exact ⟨h.2.2.1, h.2.1⟩
    | cons a A'' ih =>
      intro h
      cases A'' with
      | nil => exact ih h.2.2
      | cons a2 A'' => exact ih h.2.2
  rw [e1] at hL
  obtain ⟨k1, k2⟩ := key A' hL
  rw [e2]
  exact ⟨p, n, k1, k2, by rw [hA]; simp, by rw [hC]; simp, Lk.cut A' C' hL d1 d2⟩
theorem path_front {NX PV : List Nat} {S : List Nat} {i : Nat} (hL : Lk NX PV (0 :: S ++ [0])) (hn : S.Nodup) (h0 : 0 ∉ S) (hi : i ∉ S) (hi0 : i ≠ 0) (hl1 : i < NX.length) (hl2 : i < PV.length) :
    ∃ h, NX[0]? = some h ∧ h ∈ S ++ [0] ∧ Lk ((NX.set i h).set 0 i) ((PV.set i 0).set h i) (0 :: (i :: S) ++ [0]) := by
  obtain ⟨h, r, hS⟩ : ∃ h r, S ++ [0] = h :: r := by
    cases S with
    | nil => exact ⟨0, [], rfl⟩
    | cons c S => exact ⟨c, S ++ [0], rfl⟩
  have e1 : 0 :: S ++ [0] = 0 :: h :: r := by
    have : 0 :: S ++ [0] = 0 :: (S ++ [0]) := rfl
    rw [this, hS]
  have e2 : 0 :: (i :: S) ++ [0] = 0 :: i :: h :: r := by
    have : 0 :: (i :: S) ++ [0] = 0 :: i :: (S ++ [0]) := rfl
    rw [this, hS]
  have nS : (S ++ [0]).Nodup := by
    rw [List.nodup_append]
    refine ⟨hn, by simp, fun a ha b hb => ?_⟩
    simp at hb
    subst hb
    rintro rfl
    exact h0 ha
  rw [e1] at hL
  rw [e2]
  refine ⟨h, hL.1, by rw [hS]; simp, Lk.front hL ?_ ?_ ?_ hi0 hl1 hl2⟩
  · rw [← hS, List.dropLast_concat]; exact h0
  · rw [← hS]; exact nS
  · rw [← hS]; simp [hi, hi0]
section
variable {s : Nat} {BL : List Int} {NX PV : List Nat} {f : Int → Option Value} {S : List Nat} {K : List Int}
theorem Ring.zero (h : Ring s BL NX PV f S K) : 0 ∉ S := fun h0 => by have := (h.mem 0).1 h0; omega
/-- A hit: the slot, what cutting and putting in front make of the ring. -/
theorem Ring.hit (h : Ring s BL NX PV f S K) {b : Int} (hb : b ∈ K) (m : Nat) :
    ∃ i p n hd, f b = some (.int .i64 (i : Nat)) ∧ 0 ≠ i ∧ i ≤ s ∧ NX[i]? = some n ∧ PV[i]? = some p ∧ p ≠ i ∧ n ≠ i ∧ p ≤ s ∧ n ≤ s ∧ (NX.set p n)[0]? = some hd ∧ hd ≠ i ∧ hd ≤ s ∧
      ∃ S', Ring s BL (((NX.set p n).set i hd).set 0 i) (((PV.set n p).set i 0).set hd i) f S' (touchL K m b).1 ∧ (touchL K m b).2 = true := by
  have hb' := hb
  rw [h.bk] at hb'
  obtain ⟨i, hi, hbi⟩ := List.mem_map.1 hb'
  obtain ⟨A, C, hS⟩ := List.append_of_mem hi
  have him := (h.mem i).1 hi
  have hnd := h.nd
  have h0 := h.zero
  have hlk := h.lk
  rw [hS] at hnd h0 hlk
  obtain ⟨p, n, e1, e2, e3, e4, e5⟩ := path_cut hlk hnd h0
  have hAC : (A ++ C).Nodup := hnd.sublist ((List.Sublist.refl A).append (List.sublist_cons_self i C))
  have hiAC : i ∉ A ++ C := by
    intro hx
    have := hnd
    rw [List.nodup_append] at this
    obtain ⟨_, hc, hd⟩ := this
    rcases List.mem_append.1 hx with hx | hx
    · exact hd i hx i (by simp) rfl
    · exact (List.nodup_cons.1 hc).1 hx
  have h0AC : 0 ∉ A ++ C := fun hx => h0 (by
    rcases List.mem_append.1 hx with hx | hx
    · simp [hx]
    · simp [hx])
  obtain ⟨hd, f1, f2, f3⟩ := path_front e5 hAC h0AC hiAC (by omega) (by rw [List.length_set, h.ln]; omega) (by rw [List.length_set, h.lp]; omega)
  have hle : ∀ x, x ∈ S → x ≤ s := fun x hx => ((h.mem x).1 hx).2
  have hpi : p ≠ i ∧ p ≤ s := by
    rcases List.mem_cons.1 e3 with rfl | hp
    · omega
    · exact ⟨fun e => hiAC (by rw [← e]; simp [hp]), hle p (by rw [hS]; simp [hp])⟩
  have hni : n ≠ i ∧ n ≤ s := by
    rcases List.mem_append.1 e4 with hn | hn
    · exact ⟨fun e => hiAC (by rw [← e]; simp [hn]), hle n (by rw [hS]; simp [hn])⟩
    · simp at hn; omega
  have hhi : hd ≠ i ∧ hd ≤ s := by
    rcases List.mem_append.1 f2 with hn | hn
    · refine ⟨fun e => hiAC (by rw [← e]; exact hn), hle hd ?_⟩
      rw [hS]
      rcases List.mem_append.1 hn with hn | hn
      · simp [hn]
      · simp [hn]
    · simp at hn; omega
  have hany : K.any (· == b) = true := List.any_eq_true.2 ⟨b, hb, by simp⟩
  have hK : K = A.map (fun i => BL.getD i 0) ++ b :: C.map (fun i => BL.getD i 0) := by rw [h.bk, hS, List.map_append, List.map_cons, hbi]
  have hbA : b ∉ A.map (fun i => BL.getD i 0) := by
    have := h.knd
    rw [hK, List.nodup_append] at this
    exact fun hx => this.2.2 b hx b (by simp) rfl
  have hidx : K.findIdx (· == b) = A.length := by
    rw [hK, List.findIdx_append]
    have hno : ¬ (A.map (fun i => BL.getD i 0)).findIdx (· == b) < (A.map (fun i => BL.getD i 0)).length := fun hlt => by
      have := List.findIdx_getElem (w := hlt)
      simp only [beq_iff_eq] at this
      exact hbA (by rw [← this]; exact List.getElem_mem hlt)
    rw [if_neg hno, List.findIdx_cons]
    simp
  have hKe : K.eraseIdx A.length = (A ++ C).map (fun i => BL.getD i 0) := by
    rw [hK, List.eraseIdx_append_of_length_le (by simp)]
    simp
  have ht : touchL K m b = (b :: (A ++ C).map (fun i => BL.getD i 0), true) := by
    unfold touchL
    rw [if_pos hany, hidx, hKe]
  refine ⟨i, p, n, hd, by rw [← hbi]; exact h.fin i hi, by omega, him.2, e1, e2, hpi.1, hni.1, hpi.2, hni.2, f1, hhi.1, hhi.2, i :: (A ++ C), ?_, by rw [ht]⟩
  have hperm : (i :: (A ++ C)).Perm S := by rw [hS]; exact List.perm_middle.symm
  have hkp : (b :: (A ++ C).map (fun i => BL.getD i 0)).Perm K := by rw [hK, List.map_append]; exact List.perm_middle.symm
  rw [ht]
  exact ⟨fun j => by rw [hperm.mem_iff]; exact h.mem j, hperm.nodup_iff.2 h.nd, f3, by rw [List.map_cons, hbi], hkp.nodup_iff.2 h.knd, fun j hj => h.fin j (hperm.mem_iff.1 hj), fun b' hb' => h.fout b' (fun hx => hb' (hkp.mem_iff.2 hx)), h.lb, by simpa using h.ln, by simpa using h.lp⟩
theorem Ring.klen (h : Ring s BL NX PV f S K) : K.length = s := by rw [h.bk, List.length_map, h.len]
theorem Ring.miss (h : Ring s BL NX PV f S K) {b : Int} (hb : b ∉ K) : f b = none ∧ K.any (· == b) = false := by
  refine ⟨h.fout b hb, ?_⟩
  rw [List.any_eq_false]
  intro x hx hxb
  simp at hxb
  exact hb (hxb ▸ hx)
theorem getD_app {BL : List Int} {b : Int} {j : Nat} (hj : j < BL.length) : (BL ++ [b]).getD j 0 = BL.getD j 0 := by
  rw [List.getD_eq_getElem?_getD, List.getElem?_append_left hj, ← List.getD_eq_getElem?_getD]
/-- A miss where there is room. -/
theorem Ring.room (h : Ring s BL NX PV f S K) {b : Int} (hb : b ∉ K) {m : Nat} (hm : s < m) :
    ∃ hd, (NX ++ [0])[0]? = some hd ∧ hd ≠ s + 1 ∧ hd ≤ s + 1 ∧
      ∃ S', Ring (s + 1) (BL ++ [b]) (((NX ++ [0]).set (s + 1) hd).set 0 (s + 1)) (((PV ++ [0]).set (s + 1) 0).set hd (s + 1)) (setV f b (some (.int .i64 ((s + 1 : Nat) : Int)))) S' (touchL K m b).1 ∧ (touchL K m b).2 = false := by
  obtain ⟨_, hany⟩ := h.miss hb
  have hS : ∀ x ∈ S, 1 ≤ x ∧ x ≤ s := fun x hx => (h.mem x).1 hx
  have hlk : Lk (NX ++ [0]) (PV ++ [0]) (0 :: S ++ [0]) := by
    refine h.lk.congr (fun a ha => ?_) (fun a ha => ?_)
    · rw [List.getElem?_append_left]
      rw [List.dropLast_concat] at ha
      rcases List.mem_cons.1 ha with rfl | ha
      · rw [h.ln]; omega
      · have := hS a ha; rw [h.ln]; omega
    · rw [List.getElem?_append_left]
      rcases List.mem_append.1 (show a ∈ S ++ [0] from ha) with ha | ha
      · have := hS a ha; rw [h.lp]; omega
      · simp at ha; rw [h.lp]; omega
  have hi : s + 1 ∉ S := fun hx => by have := hS _ hx; omega
  obtain ⟨hd, f1, f2, f3⟩ := path_front hlk h.nd h.zero hi (by omega) (by simp [h.ln]) (by simp [h.lp])
  have hle : hd ≤ s := by
    rcases List.mem_append.1 f2 with hx | hx
    · exact (hS _ hx).2
    · simp at hx; omega
  have ht : touchL K m b = (b :: K, false) := by
    unfold touchL
    rw [if_neg (by rw [hany]; decide), if_neg (by rw [h.klen]; omega)]
  have hg : (BL ++ [b]).getD (s + 1) 0 = b := by rw [List.getD_eq_getElem?_getD, List.getElem?_append_right (by rw [h.lb]; omega), h.lb]; simp
  have hgo : ∀ x ∈ S, (BL ++ [b]).getD x 0 = BL.getD x 0 := fun x hx => getD_app (by rw [h.lb]; have := hS x hx; omega)
  refine ⟨hd, f1, by omega, by omega, (s + 1) :: S, ?_, by rw [ht]⟩
  rw [ht]
  refine ⟨fun i => ?_, List.nodup_cons.2 ⟨hi, h.nd⟩, f3, ?_, List.nodup_cons.2 ⟨hb, h.knd⟩, fun i hi' => ?_, fun b' hb' => ?_, by simp [h.lb], by simp [h.ln], by simp [h.lp]⟩
  · rw [List.mem_cons, h.mem]; omega
  · rw [List.map_cons, hg, h.bk]
    exact congrArg (b :: ·) (List.map_congr_left hgo).symm
  · rcases List.mem_cons.1 hi' with rfl | hi'
    · rw [hg, setV_same]
    · rw [hgo i hi', setV_other, h.fin i hi']
      intro e
      exact hb (by rw [h.bk, ← e]; exact List.mem_map_of_mem hi')
  · rw [setV_other (fun e => hb' (by simp [e]))]
    exact h.fout b' (fun hx => hb' (by simp [hx]))
/-- A miss where there is none: the last one goes. -/
theorem Ring.full (h : Ring s BL NX PV f S K) {b : Int} (hb : b ∉ K) (hs : 1 ≤ s) :
    ∃ i p n hd, PV[0]? = some i ∧ 0 ≠ i ∧ i ≤ s ∧ NX[i]? = some n ∧ PV[i]? = some p ∧ p ≠ i ∧ n ≠ i ∧ p ≤ s ∧ n ≤ s ∧ (NX.set p n)[0]? = some hd ∧ hd ≠ i ∧ hd ≤ s ∧ f (BL.getD i 0) = some (.int .i64 (i : Nat)) ∧ BL.getD i 0 ∈ K ∧
      ∃ S', Ring s (BL.set i b) (((NX.set p n).set i hd).set 0 i) (((PV.set n p).set i 0).set hd i) (setV (setV f (BL.getD i 0) none) b (some (.int .i64 (i : Nat)))) S' (touchL K s b).1 ∧ (touchL K s b).2 = false := by
  obtain ⟨_, hany⟩ := h.miss hb
  have hlen := h.len
  obtain ⟨A, i, hS⟩ : ∃ A i, S = A ++ [i] := ⟨S.dropLast, S.getLast (by intro e; rw [e] at hlen; simp at hlen; omega), (List.dropLast_concat_getLast _).symm⟩
  have hi : i ∈ S := by rw [hS]; simp
  have him := (h.mem i).1 hi
  have hnd := h.nd
  have h0 := h.zero
  have hlk := h.lk
  have hSS := hS
  rw [show A ++ [i] = A ++ i :: [] from rfl] at hS
  rw [hS] at hnd h0 hlk
  obtain ⟨p, n, e1, e2, e3, e4, e5⟩ := path_cut hlk hnd h0
  rw [List.append_nil] at e5
  have hn0 : n = 0 := by simpa using e4
  subst hn0
  have hlast : PV[0]? = some i := by
    have key : ∀ P : List Nat, Lk NX PV (P ++ [i, 0]) → PV[0]? = some i := by
      intro P
      induction P with
      | nil => intro h; exact h.2.1
      | cons a P ih =>
        intro h
        cases P with
        | nil => exact ih h.2.2
        | cons a2 P => exact ih h.2.2
    have hh : Lk NX PV ((0 :: A) ++ [i, 0]) := by simpa using hlk
    exact key _ hh
  have hAn : A.Nodup := by rw [List.nodup_append] at hnd; exact hnd.1
  have hiA : i ∉ A := fun hx => by rw [List.nodup_append] at hnd; exact hnd.2.2 i hx i (by simp) rfl
  have h0A : 0 ∉ A := fun hx => h0 (by simp [hx])
  obtain ⟨hd, f1, f2, f3⟩ := path_front e5 hAn h0A hiA (by omega) (by rw [List.length_set, h.ln]; omega) (by rw [List.length_set, h.lp]; omega)
  have hle : ∀ x, x ∈ A → x ≤ s := fun x hx => ((h.mem x).1 (by rw [hSS]; simp [hx])).2
  have hpi : p ≠ i ∧ p ≤ s := by
    rcases List.mem_cons.1 e3 with rfl | hp
    · omega
    · exact ⟨fun e => hiA (by rw [← e]; exact hp), hle p hp⟩
  have hhi : hd ≠ i ∧ hd ≤ s := by
    rcases List.mem_append.1 f2 with hn | hn
    · exact ⟨fun e => hiA (by rw [← e]; exact hn), hle hd hn⟩
    · simp at hn; omega
  have hK : K = A.map (fun i => BL.getD i 0) ++ [BL.getD i 0] := by rw [h.bk, hSS, List.map_append]; rfl
  have hkl := h.klen
  have hAl : A.length = s - 1 := by have := h.len; rw [hSS] at this; simp at this; omega
  have ht : touchL K s b = (b :: A.map (fun i => BL.getD i 0), false) := by
    unfold touchL
    rw [if_neg (by rw [hany]; decide), if_pos hkl, hK, List.take_append_of_le_length (by simp; omega), List.take_of_length_le (by simp; omega)]
  have hyA : BL.getD i 0 ∉ A.map (fun i => BL.getD i 0) := by
    have := h.knd
    rw [hK, List.nodup_append] at this
    exact fun hx => this.2.2 _ hx _ (by simp) rfl
  have hg : (BL.set i b).getD i 0 = b := by rw [List.getD_eq_getElem?_getD, List.getElem?_set_self (by rw [h.lb]; omega)]; rfl
  have hgo : ∀ x ∈ A, (BL.set i b).getD x 0 = BL.getD x 0 := fun x hx => by
    rw [List.getD_eq_getElem?_getD, List.getElem?_set_ne (fun e => hiA (by rw [e]; exact hx)), ← List.getD_eq_getElem?_getD]
  have hbA : b ∉ A.map (fun i => BL.getD i 0) := fun hx => hb (by rw [hK]; simp only [List.mem_append]; exact .inl hx)
  have hyK : BL.getD i 0 ∈ K := by rw [hK]; simp
  have hby : b ≠ BL.getD i 0 := fun e => hb (by rw [e]; exact hyK)
  refine ⟨i, p, 0, hd, hlast, by omega, him.2, e1, e2, hpi.1, by omega, hpi.2, by omega, f1, hhi.1, hhi.2, h.fin i hi, hyK, i :: A, ?_, by rw [ht]⟩
  have hperm : (i :: A).Perm S := by rw [hSS]; exact (List.perm_append_singleton _ _).symm
  rw [ht]
  refine ⟨fun j => by rw [hperm.mem_iff]; exact h.mem j, hperm.nodup_iff.2 h.nd, f3, ?_, List.nodup_cons.2 ⟨hbA, ?_⟩, fun j hj => ?_, fun b' hb' => ?_, by simpa using h.lb, by simpa using h.ln, by simpa using h.lp⟩
  · rw [List.map_cons, hg]
    exact congrArg (b :: ·) (List.map_congr_left hgo).symm
  · have := h.knd
    rw [hK, List.nodup_append] at this
    exact this.1
  · rcases List.mem_cons.1 hj with rfl | hj
    · rw [hg, setV_same]
    · have h1 : BL.getD j 0 ∈ A.map (fun i => BL.getD i 0) := List.mem_map_of_mem hj
      rw [hgo j hj, setV_other (fun e => hbA (by rw [← e]; exact h1)), setV_other (fun e => hyA (by rw [← e]; exact h1))]
      exact h.fin j (by rw [hSS]; simp [hj])
  · rw [setV_other (fun e => hb' (by simp [e]))]
    by_cases e : b' = BL.getD i 0
    · rw [e, setV_same]
    · rw [setV_other e]
      refine h.fout b' (fun hx => hb' ?_)
      rw [hK] at hx
      rcases List.mem_append.1 hx with hx | hx
      · exact List.mem_cons_of_mem _ hx
      · simp only [List.mem_singleton] at hx; exact absurd hx e
end

end Go.Proofs.Ytnlgjpcnnnilpaa
