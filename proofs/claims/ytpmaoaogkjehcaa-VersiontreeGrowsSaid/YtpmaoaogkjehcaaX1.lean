/- Ancestors, depths, jumps of a tree of versions: plain law. -/
import Derived.Test.YtpmaoaogkjehcaaV5
namespace Go.Proofs.Ytpmaoaogkjehcaa
open Go.RowKit

def chN (P : List Int) (x : Nat) : List Nat := (chain P x).map Int.toNat
def par (P : List Int) (x : Nat) : Nat := (P.getD x 0).toNat
theorem par_lt {P : List Int} (hv : validB P = true) {x : Nat} (hx : x < P.length) (h0 : 0 < x) : par P x < x ∧ P.getD x 0 = (par P x : Int) := by
  have := valid_par hv hx
  unfold par
  have := this.2.2 h0
  omega
theorem chN_zero {P : List Int} (hv : validB P = true) : chN P 0 = [0] := by
  have hl := valid_len hv
  unfold chN
  rw [chain_pos hv (by omega), hl.2.2, chain_neg P (by omega)]; rfl
theorem chN_pos {P : List Int} (hv : validB P = true) {x : Nat} (hx : x < P.length) (h0 : 0 < x) : chN P x = x :: chN P (par P x) := by
  have := (par_lt hv hx h0).2
  unfold chN
  rw [chain_pos hv hx, this]; simp
theorem chain_chN {P : List Int} (hv : validB P = true) : ∀ x : Nat, x < P.length → chain P x = (chN P x).map Int.ofNat := by
  intro x hx
  unfold chN
  rw [List.map_map]
  conv => lhs; rw [← List.map_id (chain P x)]
  apply List.map_congr_left
  intro y hy
  have := (chain_le hv x hx y hy).1
  simp; omega
theorem chN_ne {P : List Int} (hv : validB P = true) {x : Nat} (hx : x < P.length) : ∃ l, chN P x = x :: l := by
  by_cases h0 : x = 0
  · subst h0; exact ⟨[], chN_zero hv⟩
  · exact ⟨_, chN_pos hv hx (by omega)⟩
def anc (P : List Int) (x k : Nat) : Nat := (chN P x).getD k 0
def dep (P : List Int) (x : Nat) : Nat := (chN P x).length - 1
theorem chN_len {P : List Int} (hv : validB P = true) {x : Nat} (hx : x < P.length) : (chN P x).length = dep P x + 1 := by
  obtain ⟨l, hl⟩ := chN_ne hv hx
  unfold dep; rw [hl]; simp
theorem chN_lt {P : List Int} (hv : validB P = true) {x y : Nat} (hx : x < P.length) (hy : y ∈ chN P x) : y ≤ x ∧ y < P.length := by
  unfold chN at hy
  obtain ⟨z, hz, rfl⟩ := List.mem_map.1 hy
  have := chain_le hv x hx z hz
  omega
theorem anc_drop {P : List Int} (hv : validB P = true) : ∀ (x k : Nat), x < P.length → k ≤ dep P x → chN P (anc P x k) = (chN P x).drop k := by
  intro x
  induction x using Nat.strongRecOn with
  | _ x ih =>
    intro k hx hk
    have hlen := chN_len hv hx
    cases k with
    | zero =>
      obtain ⟨l, hl⟩ := chN_ne hv hx
      unfold anc
      rw [hl]; simp [hl]
    | succ k =>
      have h0 : 0 < x := by
        rcases Nat.eq_zero_or_pos x with h | h
        · subst h; rw [chN_zero hv] at hlen; simp at hlen; omega
        · exact h
      have hp := (par_lt hv hx h0).1
      have e := chN_pos hv hx h0
      have h1 := chN_len hv (x := par P x) (by omega)
      rw [e] at hlen
      simp at hlen
      have := ih (par P x) hp k (by omega) (by omega)
      unfold anc at this ⊢
      rw [e]
      simpa using this
theorem anc_mem {P : List Int} (hv : validB P = true) {x k : Nat} (hx : x < P.length) (hk : k ≤ dep P x) : anc P x k ∈ chN P x := by
  have h1 := chN_len hv hx
  unfold anc
  rw [List.getD_eq_getElem?_getD, List.getElem?_eq_getElem (by omega)]
  simp
theorem anc_dep {P : List Int} (hv : validB P = true) {x k : Nat} (hx : x < P.length) (hk : k ≤ dep P x) : dep P (anc P x k) = dep P x - k ∧ anc P x k < P.length := by
  have h1 := chN_len hv hx
  refine ⟨?_, (chN_lt hv hx (anc_mem hv hx hk)).2⟩
  unfold dep
  rw [anc_drop hv x k hx hk]
  simp; omega
theorem mem_anc {P : List Int} (hv : validB P = true) {x y : Nat} (hx : x < P.length) (hy : y ∈ chN P x) : dep P y ≤ dep P x ∧ anc P x (dep P x - dep P y) = y ∧ y < P.length := by
  have h1 := chN_len hv hx
  obtain ⟨k, hk, he⟩ := List.getElem_of_mem hy
  have e : anc P x k = y := by
    unfold anc
    rw [List.getD_eq_getElem?_getD, List.getElem?_eq_getElem hk]
    simpa using he
  have h2 := anc_dep hv hx (k := k) (by omega)
  rw [e] at h2
  refine ⟨by omega, ?_, h2.2⟩
  rw [h2.1, show dep P x - (dep P x - k) = k by omega, e]
theorem chN_trans {P : List Int} (hv : validB P = true) {x y z : Nat} (hx : x < P.length) (hy : y ∈ chN P x) (hz : z ∈ chN P y) : z ∈ chN P x := by
  have h1 := mem_anc hv hx hy
  have h2 := anc_drop hv x (dep P x - dep P y) hx (by omega)
  rw [h1.2.1] at h2
  rw [h2] at hz
  exact List.mem_of_mem_drop hz
theorem anc_zero {P : List Int} (hv : validB P = true) {x : Nat} (hx : x < P.length) : anc P x 0 = x := by
  obtain ⟨l, hl⟩ := chN_ne hv hx
  unfold anc; rw [hl]; rfl
theorem chN_eq {P : List Int} (hv : validB P = true) {x y : Nat} (hx : x < P.length) (hy : y ∈ chN P x) (hd : dep P y = dep P x) : y = x := by
  have h1 := mem_anc hv hx hy
  rw [hd, Nat.sub_self, anc_zero hv hx] at h1
  exact h1.2.1.symm
theorem anc_anc {P : List Int} (hv : validB P = true) {x k m : Nat} (hx : x < P.length) (hk : k + m ≤ dep P x) : anc P (anc P x k) m = anc P x (k + m) := by
  unfold anc
  have := anc_drop hv x k hx (by omega)
  unfold anc at this
  rw [this, List.getD_eq_getElem?_getD, List.getD_eq_getElem?_getD, List.getElem?_drop]
theorem chN_lin {P : List Int} (hv : validB P = true) {x y z : Nat} (hx : x < P.length) (hy : y ∈ chN P x) (hz : z ∈ chN P x) (hd : dep P y ≤ dep P z) : y ∈ chN P z := by
  have h1 := mem_anc hv hx hy
  have h2 := mem_anc hv hx hz
  have h3 := anc_anc hv hx (k := dep P x - dep P z) (m := dep P z - dep P y) (by omega)
  rw [h2.2.1, show dep P x - dep P z + (dep P z - dep P y) = dep P x - dep P y by omega, h1.2.1] at h3
  rw [← h3]
  exact anc_mem hv h2.2.2 (by omega)
theorem chN_self {P : List Int} (hv : validB P = true) {x : Nat} (hx : x < P.length) : x ∈ chN P x := by
  obtain ⟨l, hl⟩ := chN_ne hv hx
  rw [hl]; simp
theorem dep_pos {P : List Int} (hv : validB P = true) {x : Nat} (hx : x < P.length) (h0 : 0 < x) : dep P x = dep P (par P x) + 1 := by
  have h1 := (par_lt hv hx h0).1
  have h2 := chN_len hv (x := par P x) (by omega)
  unfold dep at *
  rw [chN_pos hv hx h0]
  simp; omega
theorem dep_zero {P : List Int} (hv : validB P = true) : dep P 0 = 0 := by unfold dep; rw [chN_zero hv]; rfl
theorem dep_le {P : List Int} (hv : validB P = true) : ∀ x : Nat, x < P.length → dep P x ≤ x := by
  intro x
  induction x using Nat.strongRecOn with
  | _ x ih =>
    intro hx
    by_cases h0 : x = 0
    · subst h0; rw [dep_zero hv]; omega
    · have h1 := (par_lt hv hx (by omega)).1
      have := ih _ h1 (by omega)
      rw [dep_pos hv hx (by omega)]; omega
theorem anc_one {P : List Int} (hv : validB P = true) {x : Nat} (hx : x < P.length) (h0 : 0 < x) : anc P x 1 = par P x := by
  have h1 := (par_lt hv hx h0).1
  have h2 := anc_zero hv (x := par P x) (by omega)
  unfold anc at *
  rw [chN_pos hv hx h0]
  simpa using h2
/-- The greatest common ancestor. -/
def IsCom (P : List Int) (a b c : Nat) : Prop := c ∈ chN P a ∧ c ∈ chN P b ∧ ∀ x, x ∈ chN P a → x ∈ chN P b → x ∈ chN P c
theorem IsCom.symm {P : List Int} {a b c : Nat} (h : IsCom P a b c) : IsCom P b a c := ⟨h.2.1, h.1, fun x h1 h2 => h.2.2 x h2 h1⟩
theorem IsCom.uniq {P : List Int} (hv : validB P = true) {a b c d : Nat} (ha : a < P.length) (h : IsCom P a b c) (h' : IsCom P a b d) : c = d := by
  have h1 := h'.2.2 c h.1 h.2.1
  have h2 := h.2.2 d h'.1 h'.2.1
  have hc := (chN_lt hv ha h.1).2
  have hd := (chN_lt hv ha h'.1).2
  have := (chN_lt hv hc h2).1
  have := (chN_lt hv hd h1).1
  omega
theorem IsCom.down {P : List Int} (hv : validB P = true) {a a1 b c : Nat} (ha : a < P.length) (h1 : a1 ∈ chN P a) (hx : ∀ x, x ∈ chN P a → x ∈ chN P b → x ∈ chN P a1) (h : IsCom P a1 b c) : IsCom P a b c :=
  ⟨chN_trans hv ha h1 h.1, h.2.1, fun x hxa hxb => h.2.2 x (hx x hxa hxb) hxb⟩
theorem IsCom.self {P : List Int} (hv : validB P = true) {a : Nat} (ha : a < P.length) : IsCom P a a a := ⟨chN_self hv ha, chN_self hv ha, fun _ h _ => h⟩

/-- The ancestor of b at depth d. -/
def upV (P : List Int) (b d : Nat) : Nat := if d < dep P b then anc P b (dep P b - d) else b
theorem upV_mem {P : List Int} (hv : validB P = true) {b : Nat} (d : Nat) (hb : b < P.length) : upV P b d ∈ chN P b := by
  unfold upV
  split
  · exact anc_mem hv hb (by omega)
  · exact chN_self hv hb
theorem upV_dep {P : List Int} (hv : validB P = true) {b d : Nat} (hb : b < P.length) (hd : d ≤ dep P b) : dep P (upV P b d) = d := by
  unfold upV
  split
  · rw [(anc_dep hv hb (by omega)).1]; omega
  · omega
theorem upV_anc {P : List Int} (hv : validB P = true) {a b : Nat} (hb : b < P.length) : upV P b (dep P a) = a ↔ a ∈ chN P b := by
  constructor
  · intro h; rw [← h]; exact upV_mem hv _ hb
  · intro h
    have := mem_anc hv hb h
    unfold upV
    split
    · exact this.2.1
    · exact (chN_eq hv hb h (by omega)).symm
/-- Both to the same depth. -/
theorem IsCom.level {P : List Int} (hv : validB P = true) {a b c d : Nat} (ha : a < P.length) (hb : b < P.length) (h1 : d = min (dep P a) (dep P b)) (h : IsCom P (upV P a d) (upV P b d) c) : IsCom P a b c := by
  have key : ∀ x, x ∈ chN P a → x ∈ chN P b → x ∈ chN P (upV P a d) ∧ x ∈ chN P (upV P b d) := by
    intro x hxa hxb
    have g1 := mem_anc hv ha hxa
    have g2 := mem_anc hv hb hxb
    exact ⟨chN_lin hv ha hxa (upV_mem hv d ha) (by rw [upV_dep hv ha (by omega)]; omega), chN_lin hv hb hxb (upV_mem hv d hb) (by rw [upV_dep hv hb (by omega)]; omega)⟩
  refine ⟨chN_trans hv ha (upV_mem hv d ha) h.1, chN_trans hv hb (upV_mem hv d hb) h.2.1, fun x h1 h2 => h.2.2 x (key x h1 h2).1 (key x h1 h2).2⟩
/-- Two of the same depth, and a step to ancestors of the same depth that part. -/
theorem IsCom.step {P : List Int} (hv : validB P = true) {a b a1 b1 c : Nat} (ha : a < P.length) (hb : b < P.length) (h1 : a1 ∈ chN P a) (h2 : b1 ∈ chN P b) (hd : dep P a1 = dep P b1)
    (hn : a1 ≠ b1 ∨ (a ≠ b ∧ dep P a = dep P b ∧ dep P a = dep P a1 + 1)) (h : IsCom P a1 b1 c) : IsCom P a b c := by
  have key : ∀ x, x ∈ chN P a → x ∈ chN P b → dep P x ≤ dep P a1 := by
    intro x hxa hxb
    rcases Nat.lt_or_ge (dep P a1) (dep P x) with hlt | hge
    · exfalso
      have hxl := (chN_lt hv ha hxa).2
      have g1 := chN_lin hv ha h1 hxa (by omega)
      have g2 := chN_lin hv hb h2 hxb (by omega)
      have g3 := chN_lin hv hxl g1 g2 (by omega)
      have hb1 := (chN_lt hv hb h2).2
      have e1 : a1 = b1 := chN_eq hv hb1 g3 hd
      rcases hn with hn | ⟨hn1, hn2, hn3⟩
      · exact hn e1
      · have m1 := mem_anc hv ha hxa
        have e2 := chN_eq hv ha hxa (by omega)
        have e3 := chN_eq hv hb hxb (by omega)
        exact hn1 (e2.symm.trans e3)
    · exact hge
  refine ⟨chN_trans hv ha h1 h.1, chN_trans hv hb h2 h.2.1, fun x hxa hxb => ?_⟩
  have := key x hxa hxb
  exact h.2.2 x (chN_lin hv ha hxa h1 this) (chN_lin hv hb hxb h2 (by omega))

/-- The depth of the jump, by depth. -/
def Jl : Nat → List Nat
  | 0 => [0]
  | d + 1 => Jl d ++ [if d - (Jl d).getD d 0 = (Jl d).getD d 0 - (Jl d).getD ((Jl d).getD d 0) 0 then (Jl d).getD ((Jl d).getD d 0) 0 else d]
def J (d : Nat) : Nat := (Jl d).getD d 0
theorem Jl_len (d : Nat) : (Jl d).length = d + 1 := by
  induction d with
  | zero => rfl
  | succ d ih => rw [Jl]; simp [ih]
theorem Jl_get : ∀ (d i : Nat), i ≤ d → (Jl d).getD i 0 = J i := by
  intro d
  induction d with
  | zero => intro i h; have : i = 0 := by omega
            subst this; rfl
  | succ d ih =>
    intro i h
    by_cases hi : i = d + 1
    · subst hi; rfl
    · have hl := Jl_len d
      rw [← ih i (by omega), Jl, List.getD_eq_getElem?_getD, List.getElem?_append_left (by omega), ← List.getD_eq_getElem?_getD]
theorem J_zero : J 0 = 0 := rfl
theorem J_succ0 (d : Nat) (hle : J d ≤ d) : J (d + 1) = if d - J d = J d - J (J d) then J (J d) else d := by
  have hl := Jl_len d
  have e1 : (Jl d).getD d 0 = J d := rfl
  have e2 := Jl_get d (J d) hle
  have h : J (d + 1) = (Jl (d + 1)).getD (d + 1) 0 := rfl
  rw [h, Jl, List.getD_eq_getElem?_getD, List.getElem?_append_right (by omega), hl, Nat.sub_self]
  simp only [e1, e2, List.getElem?_cons_zero, Option.getD_some]
theorem J_le : ∀ d, J d ≤ d ∧ (0 < d → J d < d) := by
  intro d
  induction d using Nat.strongRecOn with
  | _ d ih =>
    cases d with
    | zero => exact ⟨by rw [J_zero]; omega, by omega⟩
    | succ d =>
      have h1 := (ih d (by omega)).1
      have h2 := (ih (J d) (by omega)).1
      rw [J_succ0 d h1]
      split <;> omega
theorem J_succ (d : Nat) : J (d + 1) = if d - J d = J d - J (J d) then J (J d) else d := J_succ0 d (J_le d).1

def jmp (P : List Int) (x : Nat) : Nat := anc P x (dep P x - J (dep P x))
theorem jmp_mem {P : List Int} (hv : validB P = true) {x : Nat} (hx : x < P.length) : jmp P x ∈ chN P x := anc_mem hv hx (by omega)
theorem jmp_dep {P : List Int} (hv : validB P = true) {x : Nat} (hx : x < P.length) : dep P (jmp P x) = J (dep P x) ∧ jmp P x < P.length := by
  have h := anc_dep hv hx (k := dep P x - J (dep P x)) (by omega)
  have := (J_le (dep P x)).1
  refine ⟨?_, h.2⟩
  unfold jmp; omega
/-- What the index holds. -/
def mkV (P : List Int) : List Tri := (List.range P.length).map fun i => (P.getD i 0, (dep P i : Int), (jmp P i : Int))
theorem mkV_len (P : List Int) : (mkV P).length = P.length := by simp [mkV]
theorem mkV_get (P : List Int) {i : Nat} (h : i < P.length) : (mkV P)[i]? = some (P.getD i 0, (dep P i : Int), (jmp P i : Int)) := by
  simp [mkV, h]
theorem mkV_start : mkV [-1] = [(-1, 0, 0)] := by decide +kernel

theorem chain_snoc {P : List Int} {p : Int} (hv : validB P = true) (hv' : validB (P ++ [p]) = true) : ∀ x : Nat, x < P.length → chain (P ++ [p]) x = chain P x := by
  intro x
  induction x using Nat.strongRecOn with
  | _ x ih =>
    intro hx
    have e : (P ++ [p]).getD x 0 = P.getD x 0 := by
      rw [List.getD_eq_getElem?_getD, List.getElem?_append_left hx, ← List.getD_eq_getElem?_getD]
    rw [chain_pos hv hx, chain_pos hv' (x := x) (by simp; omega), e]
    have hp := valid_par hv hx
    by_cases h0 : P.getD x 0 < 0
    · rw [chain_neg _ h0, chain_neg _ h0]
    · obtain ⟨q, hq⟩ := Int.eq_ofNat_of_zero_le (show 0 ≤ P.getD x 0 by omega)
      rw [hq] at hp ⊢
      rw [ih q (by omega) (by omega)]
theorem valid_snoc {P : List Int} (hv : validB P = true) {p : Nat} (hp : p < P.length) (hl : P.length < 1000) : validB (P ++ [(p : Int)]) = true := by
  obtain ⟨h1, h2, h3⟩ := valid_len hv
  unfold validB
  have e0 : (P ++ [(p : Int)]).getD 0 0 = P.getD 0 0 := by
    rw [List.getD_eq_getElem?_getD, List.getElem?_append_left (by omega), ← List.getD_eq_getElem?_getD]
  have e1 : validK (P ++ [(p : Int)]) P.length = validK P P.length := by
    unfold validK
    rw [Bool.eq_iff_iff]
    simp only [List.all_eq_true, List.mem_range]
    constructor
    · intro h i hi
      have := h i hi
      rwa [List.getD_eq_getElem?_getD, List.getElem?_append_left (by omega), ← List.getD_eq_getElem?_getD] at this
    · intro h i hi
      have := h i hi
      rw [List.getD_eq_getElem?_getD, List.getElem?_append_left (by omega), ← List.getD_eq_getElem?_getD]
      exact this
  obtain ⟨m, hm⟩ : ∃ m, P.length = m + 1 := ⟨P.length - 1, by omega⟩
  have e2 := validK_succ (P := P ++ [(p : Int)]) (k := m) (p := (p : Int)) (by rw [List.getElem?_append_right (by omega)]; simp [hm])
  rw [← hm, e1] at e2
  have hvk : validK P P.length = true := by
    unfold validB at hv
    simp only [Bool.and_eq_true] at hv
    exact hv.2
  rw [hvk] at e2
  rw [e0, h3]
  have e3 : (P ++ [(p : Int)]).length = m + 2 := by simp [hm]
  rw [e3, e2]
  simp; omega
theorem chN_snoc {P : List Int} {p : Int} (hv : validB P = true) (hv' : validB (P ++ [p]) = true) {x : Nat} (hx : x < P.length) : chN (P ++ [p]) x = chN P x := by
  unfold chN; rw [chain_snoc hv hv' x hx]
theorem mkV_snoc {P : List Int} (hv : validB P = true) {p : Nat} (hp : p < P.length) (hl : P.length < 1000) :
    mkV (P ++ [(p : Int)]) = mkV P ++ [((p : Int), (dep P p : Int) + 1, if (dep P p : Int) - dep P (jmp P p) = dep P (jmp P p) - dep P (jmp P (jmp P p)) then (jmp P (jmp P p) : Int) else p)] := by
  have hv' := valid_snoc hv hp hl
  have hl' : (P ++ [(p : Int)]).length = P.length + 1 := by simp
  unfold mkV
  rw [hl', List.range_succ, List.map_append]
  congr 1
  · apply List.map_congr_left
    intro i hi
    have hi' : i < P.length := by simpa using hi
    have e := chN_snoc hv hv' hi'
    rw [List.getD_eq_getElem?_getD, List.getElem?_append_left hi', ← List.getD_eq_getElem?_getD]
    have e1 : dep (P ++ [(p : Int)]) i = dep P i := by unfold dep; rw [e]
    have e2 : jmp (P ++ [(p : Int)]) i = jmp P i := by unfold jmp anc; rw [e1, e]
    rw [e1, e2]
  · have hg : (P ++ [(p : Int)]).getD P.length 0 = (p : Int) := by
      rw [List.getD_eq_getElem?_getD, List.getElem?_append_right (by omega)]; simp
    have h0 := (valid_len hv).1
    have hpar : par (P ++ [(p : Int)]) P.length = p := by unfold par; rw [hg]; rfl
    have ec := chN_pos hv' (x := P.length) (by omega) (by omega)
    rw [hpar, chN_snoc hv hv' hp] at ec
    have h1 := chN_len hv hp
    have ed : dep (P ++ [(p : Int)]) P.length = dep P p + 1 := by unfold dep at *; rw [ec]; simp; omega
    have hj := jmp_dep hv hp
    have hjj := jmp_dep hv hj.2
    have l1 := J_le (dep P p)
    have l2 := J_le (J (dep P p))
    simp only [List.map_cons, List.map_nil, hg, ed]
    rw [hj.1] at hjj
    rw [hj.1, hjj.1]
    congr 3
    unfold jmp
    rw [ed, J_succ]
    have hiff : ((dep P p : Int) - (J (dep P p) : Nat) = (J (dep P p) : Nat) - (J (J (dep P p)) : Nat)) ↔ dep P p - J (dep P p) = J (dep P p) - J (J (dep P p)) := by omega
    by_cases hc : dep P p - J (dep P p) = J (dep P p) - J (J (dep P p))
    · rw [if_pos hc, if_pos (hiff.2 hc)]
      have e1 : anc (P ++ [(p : Int)]) P.length (dep P p + 1 - J (J (dep P p))) = anc P p (dep P p - J (J (dep P p))) := by
        unfold anc
        rw [ec, show dep P p + 1 - J (J (dep P p)) = (dep P p - J (J (dep P p))) + 1 by omega]
        rfl
      have hj1 := hj.1
      unfold jmp at hj1
      rw [e1, hj1, anc_anc hv hp (by omega)]
      congr 2; omega
    · rw [if_neg hc, if_neg (fun h => hc (hiff.1 h))]
      have e1 : anc (P ++ [(p : Int)]) P.length (dep P p + 1 - dep P p) = anc P p 0 := by
        unfold anc
        rw [ec, show dep P p + 1 - dep P p = 0 + 1 by omega]
        rfl
      rw [e1, anc_zero hv hp]

end Go.Proofs.Ytpmaoaogkjehcaa
