/- Buffer trees: updates are cheap (plain law). -/
import Derived.Test.YtkmnnfflibamnaaL2
import Derived.Test.YtkmnnfflibamnaaH10
namespace Go.Proofs.Ytkmnnfflibamnaa
theorem lg_ge {n : Nat} (h : 1 ≤ n) : 2 ^ lg n ≤ n := by
  induction n using Nat.strongRecOn with
  | ind n ih =>
    rw [lg]
    split
    · simpa using h
    · have := ih (n / 2) (by omega) (by omega)
      rw [Nat.add_comm 1, Nat.pow_succ]
      omega
theorem pow_lg {k n : Nat} (h : 2 ^ k ≤ n) : k ≤ lg n := by
  have h1 := Nat.lt_of_le_of_lt h (lg_lt n)
  have h2 := (Nat.pow_lt_pow_iff_right (a := 2) (by omega)).1 h1
  omega
theorem lg_mono {a b : Nat} (h : a ≤ b) : lg a ≤ lg b := by
  rcases Nat.eq_zero_or_pos a with e | e
  · subst e
    have h0 : lg 0 = 0 := by rw [lg, dif_pos (by omega)]
    omega
  · exact pow_lg (Nat.le_trans (lg_ge e) h)
theorem cnt_mul (B n : Nat) : cnt B n * B ≤ n + (B - 1) := by
  unfold cnt
  have := Nat.div_mul_le_self (n + B - 1) B
  omega
theorem cnts_mul (B : Nat) : ∀ l : List (List En), cnts B l * B ≤ len1 l + l.length * (B - 1)
  | [] => by simp [cnts]
  | x :: l => by
    have h1 := cnts_mul B l
    have h2 := cnt_mul B x.length
    have e1 : cnts B (x :: l) = cnt B x.length + cnts B l := by unfold cnts; rw [List.map_cons, List.sum_cons]
    have e2 : len1 (x :: l) = x.length + len1 l := by unfold len1; rw [List.map_cons, List.sum_cons]
    rw [e1, e2, List.length_cons, Nat.add_mul, Nat.add_mul]
    omega
/-- Entries, each with the number of levels that it may still climb. -/
def wT : Nat → Lv → Nat
  | _, [] => 0
  | L, l :: lv => len1 l * L + wT (L - 1) lv
/-- Runs, each with the number of spills that it stands for. -/
def cF (F : Nat) : Lv → Nat
  | [] => 0
  | l :: lv => l.length + F * cF F lv
theorem wT_nils : ∀ (n L : Nat), wT L (List.replicate n []) = 0
  | 0, _ => rfl
  | n + 1, L => by
    rw [List.replicate_succ]
    unfold wT
    rw [wT_nils n]; simp [len1]
theorem wT_addL : ∀ (i L : Nat) (lv : Lv) (r : List En), wT L (addL lv i r) = wT L lv + r.length * (L - i)
  | 0, L, [], r => by simp [addL, padL, wT, len1]
  | 0, L, a :: lv, r => by
    have e : addL (a :: lv) 0 r = (a ++ [r]) :: lv := by simp [addL, padL]
    rw [e]
    unfold wT
    rw [len1_app, Nat.add_mul]
    have : len1 [r] = r.length := by simp [len1]
    rw [this, Nat.sub_zero]; omega
  | i + 1, L, [], r => by
    rw [addL_nil]
    have h := wT_addL i (L - 1) [] r
    unfold wT
    rw [h]
    have : len1 [] = 0 := rfl
    rw [this, Nat.sub_sub, Nat.add_comm 1 i]
    simp [wT]
  | i + 1, L, a :: lv, r => by
    rw [addL_cons]
    have h := wT_addL i (L - 1) lv r
    unfold wT
    rw [h, Nat.sub_sub, Nat.add_comm 1 i]; omega
theorem wT_set : ∀ (i L : Nat) (lv : Lv), i < lv.length → wT L (lv.set i []) + len1 (lv.getD i []) * (L - i) = wT L lv
  | i, L, [], h => by simp at h
  | 0, L, a :: lv, _ => by
    show len1 [] * L + wT (L - 1) lv + len1 a * (L - 0) = len1 a * L + wT (L - 1) lv
    have : len1 [] = 0 := rfl
    rw [this, Nat.sub_zero]; omega
  | i + 1, L, a :: lv, h => by
    have ih := wT_set i (L - 1) lv (by simpa using h)
    show len1 a * L + wT (L - 1) (lv.set i []) + len1 (lv.getD i []) * (L - (i + 1)) = len1 a * L + wT (L - 1) lv
    rw [← ih, Nat.sub_sub, Nat.add_comm 1 i]; omega
theorem cF_addL (F : Nat) : ∀ (i : Nat) (lv : Lv) (r : List En), cF F (addL lv i r) = cF F lv + F ^ i
  | 0, [], r => by simp [addL, padL, cF]
  | 0, a :: lv, r => by
    have e : addL (a :: lv) 0 r = (a ++ [r]) :: lv := by simp [addL, padL]
    rw [e]
    unfold cF
    rw [List.length_append]; simp; omega
  | i + 1, [], r => by
    rw [addL_nil]
    have h := cF_addL F i [] r
    unfold cF
    rw [h, Nat.pow_succ]
    simp [cF, Nat.mul_comm]
  | i + 1, a :: lv, r => by
    rw [addL_cons]
    have h := cF_addL F i lv r
    unfold cF
    rw [h, Nat.pow_succ, Nat.mul_add, Nat.mul_comm F (F ^ i)]; omega
theorem cF_set (F : Nat) : ∀ (i : Nat) (lv : Lv), i < lv.length → cF F (lv.set i []) + F ^ i * (lv.getD i []).length = cF F lv
  | i, [], h => by simp at h
  | 0, a :: lv, _ => by
    show 0 + F * cF F lv + F ^ 0 * a.length = a.length + F * cF F lv
    rw [Nat.pow_zero, Nat.one_mul]; omega
  | i + 1, a :: lv, h => by
    have ih := cF_set F i lv (by simpa using h)
    show a.length + F * cF F (lv.set i []) + F ^ (i + 1) * (lv.getD i []).length = a.length + F * cF F lv
    rw [← ih, Nat.pow_succ, Nat.mul_add, Nat.mul_comm (F ^ i) F, Nat.mul_assoc]; omega
/-- What s spills have cost. -/
def Pot (B M F s : Nat) (t : TT) : Prop := cF F t.lv ≤ s ∧ ∀ L, lg s ≤ L → 2 * (t.mv * B) + 4 * wT L t.lv + 3 * (M * runsN t.lv) ≤ s * M * (6 + 4 * L)
theorem Pot.nil (B M F : Nat) : Pot B M F 0 ⟨[], 0⟩ := ⟨Nat.le_refl _, fun L _ => by simp [wT, runsN]⟩
theorem Pot.merge {B M F s i : Nat} {t : TT} (hF : 2 ≤ F) (hM : 2 * B ≤ M) (h : Pot B M F s t) (hf : fullT F t.lv = some i) : Pot B M F s (mergeT B t i) := by
  obtain ⟨hi, hc, _⟩ := fullT_some hf
  obtain ⟨h1, h2⟩ := h
  obtain ⟨c, hcd⟩ : ∃ c, c = (t.lv.getD i []).length := ⟨_, rfl⟩
  have k1 := cF_set F i t.lv hi
  have k2 := runsN_set t.lv i [] hi
  rw [← hcd] at k1 k2 hc
  have hrl := resT_len t.lv i
  obtain ⟨T, hT⟩ : ∃ T, T = len1 (t.lv.getD i []) := ⟨_, rfl⟩
  rw [← hT] at hrl
  have hcm := cnts_mul B (t.lv.getD i [])
  rw [← hT, ← hcd] at hcm
  obtain ⟨q, hq⟩ : ∃ q, q = cnts B (t.lv.getD i []) := ⟨_, rfl⟩
  rw [← hq] at hcm
  have hpow : F ^ i * F ≤ F ^ i * c := Nat.mul_le_mul_left _ hc
  have hlev : i + 1 ≤ lg s := by
    refine pow_lg ?_
    have e1 : 2 ^ (i + 1) ≤ F ^ (i + 1) := Nat.pow_le_pow_left hF _
    rw [Nat.pow_succ F] at e1
    omega
  have hB1 : 2 * (c * (B - 1)) ≤ c * M := by
    have : c * (2 * (B - 1)) ≤ c * M := Nat.mul_le_mul_left _ (by omega)
    rw [Nat.mul_left_comm] at this; exact this
  have hcM : 2 * M ≤ c * M := Nat.mul_le_mul_right _ (by omega)
  have k3 : c * M = M * c := Nat.mul_comm _ _
  unfold mergeT
  dsimp only
  rw [← hq]
  split
  · refine ⟨by show cF F (t.lv.set i []) ≤ s; omega, fun L hL => ?_⟩
    have h3 := h2 L hL
    have h4 := wT_set i L t.lv hi
    rw [← hT] at h4
    have e5 : M * runsN t.lv = M * runsN (t.lv.set i []) + M * c := by
      rw [← Nat.mul_add]; congr 1
      have : ([] : List (List En)).length = 0 := rfl
      omega
    have e6 : T * (L - i) = T * (L - i - 1) + T := by
      have : L - i = (L - i - 1) + 1 := by omega
      rw [this, Nat.mul_add]; simp
    show 2 * ((t.mv + q) * B) + 4 * wT L (t.lv.set i []) + 3 * (M * runsN (t.lv.set i [])) ≤ s * M * (6 + 4 * L)
    rw [Nat.add_mul]
    omega
  · have hcn := cnt_mul B (resT t.lv i).length
    have k5 := cF_addL F (i + 1) (t.lv.set i []) (resT t.lv i)
    refine ⟨?_, fun L hL => ?_⟩
    · show cF F (addL (t.lv.set i []) (i + 1) (resT t.lv i)) ≤ s
      rw [k5, Nat.pow_succ]; omega
    · have h3 := h2 L hL
      have h4 := wT_set i L t.lv hi
      rw [← hT] at h4
      have e5 : M * runsN t.lv = M * runsN (t.lv.set i []) + M * c := by
        rw [← Nat.mul_add]; congr 1
        have : ([] : List (List En)).length = 0 := rfl
        omega
      have e6 : T * (L - i) = T * (L - (i + 1)) + T := by
        have : L - i = (L - (i + 1)) + 1 := by omega
        rw [this, Nat.mul_add]; simp
      have e7 : (resT t.lv i).length * (L - (i + 1)) ≤ T * (L - (i + 1)) := Nat.mul_le_mul_right _ hrl
      show 2 * ((t.mv + q + cnt B (resT t.lv i).length) * B) + 4 * wT L (addL (t.lv.set i []) (i + 1) (resT t.lv i)) + 3 * (M * runsN (addL (t.lv.set i []) (i + 1) (resT t.lv i))) ≤ s * M * (6 + 4 * L)
      rw [wT_addL, runsN_add, Nat.mul_add M, Nat.add_mul, Nat.add_mul]
      omega
theorem Pot.loop {B M F s : Nat} (hF : 2 ≤ F) (hM : 2 * B ≤ M) : ∀ (n : Nat) {t : TT}, Pot B M F s t → Pot B M F s (loopT B F n t)
  | 0, _, h => h
  | n + 1, t, h => by
    unfold loopT
    cases hf : fullT F t.lv with
    | none => exact h
    | some i => exact Pot.loop hF hM n (h.merge hF hM hf)
theorem Pot.spill {B M F s : Nat} {t : TT} {buf : List En} (hF : 2 ≤ F) (hM : 2 * B ≤ M) (h : Pot B M F s t) (hb : buf.length ≤ M) : Pot B M F (s + 1) (spillT B F t buf) := by
  unfold spillT
  refine Pot.loop hF hM _ ?_
  obtain ⟨h1, h2⟩ := h
  refine ⟨?_, fun L hL => ?_⟩
  · show cF F (addL t.lv 0 buf) ≤ s + 1
    rw [cF_addL, Nat.pow_zero]; omega
  · have h3 := h2 L (Nat.le_trans (lg_mono (Nat.le_succ s)) hL)
    have hcn := cnt_mul B buf.length
    have e1 : buf.length * L ≤ M * L := Nat.mul_le_mul_right _ hb
    show 2 * ((t.mv + cnt B buf.length) * B) + 4 * wT L (addL t.lv 0 buf) + 3 * (M * runsN (addL t.lv 0 buf)) ≤ (s + 1) * M * (6 + 4 * L)
    rw [wT_addL, runsN_add, Nat.mul_add M, Nat.add_mul, Nat.add_mul s 1, Nat.add_mul, Nat.one_mul, Nat.mul_add M 6, Nat.mul_left_comm M 4 L, Nat.sub_zero]
    omega
/-- How far updates have come, and what they have cost. -/
def Chp (B M F n : Nat) (t : TT) (buf : List En) : Prop := ∃ s, Pot B M F s t ∧ s * M + buf.length ≤ n ∧ buf.length + 1 ≤ M
theorem Chp.nil {B M F : Nat} (hM : 1 ≤ M) : Chp B M F 0 ⟨[], 0⟩ [] := ⟨0, Pot.nil _ _ _, by simp, by show 0 + 1 ≤ M; omega⟩
theorem Chp.upd {B M F n : Nat} {t : TT} {buf : List En} (hF : 2 ≤ F) (hM : 2 * B ≤ M) (h : Chp B M F n t buf) (hM1 : 1 ≤ M) (e : En) : Chp B M F (n + 1) (updT B F M t buf e).1 (updT B F M t buf e).2 := by
  obtain ⟨s, h1, h2, h3⟩ := h
  have hl := ins_len (l := buf) e
  unfold updT
  split
  · refine ⟨s + 1, h1.spill hF hM (by omega), ?_, by show 0 + 1 ≤ M; omega⟩
    show (s + 1) * M + 0 ≤ n + 1
    rw [Nat.add_mul]; omega
  · exact ⟨s, h1, by show s * M + (ins buf e).length ≤ n + 1; omega, by show (ins buf e).length + 1 ≤ M; omega⟩
theorem Chp.cheap {B M F n : Nat} {t : TT} {buf : List En} (h : Chp B M F n t buf) (hM : 1 ≤ M) : t.mv * B ≤ 3 * n * (lg (n / M) + 1) := by
  obtain ⟨s, ⟨_, h1⟩, h2, _⟩ := h
  have hs : s ≤ n / M := (Nat.le_div_iff_mul_le (by omega)).2 (by omega)
  have h3 := h1 (lg (n / M)) (lg_mono hs)
  obtain ⟨L, hL⟩ : ∃ L, L = lg (n / M) := ⟨_, rfl⟩
  rw [← hL] at h3 ⊢
  have h4 : s * M * (6 + 4 * L) ≤ n * (6 + 4 * L) := Nat.mul_le_mul_right _ (by omega)
  have e1 : n * (6 + 4 * L) = 6 * n + 4 * (n * L) := by rw [Nat.mul_add, Nat.mul_comm n 6, Nat.mul_left_comm]
  have e2 : 3 * n * (L + 1) = 3 * (n * L) + 3 * n := by rw [Nat.mul_add, Nat.mul_assoc]; simp
  omega
end Go.Proofs.Ytkmnnfflibamnaa
