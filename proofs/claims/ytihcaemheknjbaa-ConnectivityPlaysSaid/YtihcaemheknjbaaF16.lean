/- segments and Unions; what stands on the way to an index. -/
import Derived.Test.YtihcaemheknjbaaF15
import Derived.Test.YtihcaemheknjbaaF14
namespace Go.Proofs.Ytihcaemheknjbaa
open Go.RowKit
attribute [local go_sem ↓] Go.wp_at_zero Go.wp_at_succ
/-- The edges on the way to an index. -/
def pathE : Sg → Nat → List Iv
  | .nil, _ => []
  | .node _ f t es l r, i => if f ≤ i ∧ i < t then es ++ (pathE l i ++ pathE r i) else []
theorem pathE_out : ∀ {T : Sg} {f t i : Nat}, Sh f t T → ¬ (f ≤ i ∧ i < t) → pathE T i = []
  | .nil, _, _, _, _, _ => rfl
  | .node b f' t' es l r, f, t, i, h, hi => by
    obtain ⟨rfl, rfl, _, _⟩ := h
    unfold pathE
    rw [if_neg hi]
theorem pathE_put (x y : Iv) (i : Nat) : ∀ {T : Sg} {f t : Nat}, Sh f t T → (y ∈ pathE (putT x T) i ↔ y ∈ pathE T i ∨ (y = x ∧ x.2.2.1 ≤ i ∧ i < x.2.2.2 ∧ f ≤ i ∧ i < t))
  | .nil, f, t, h => by
    have : t ≤ f := h
    constructor
    · intro h; cases h
    · rintro (h | ⟨_, _, _, _, _⟩)
      · cases h
      · omega
  | .node b f' t' es l r, f, t, h => by
    obtain ⟨rfl, rfl, hft, hd⟩ := h
    rw [putT_node]
    by_cases c1 : x.2.2.2 ≤ f' ∨ t' ≤ x.2.2.1
    · rw [if_pos c1]
      constructor
      · exact .inl
      · rintro (h | ⟨_, _, _, _, _⟩)
        · exact h
        · omega
    rw [if_neg c1]
    by_cases c2 : x.2.2.1 ≤ f' ∧ t' ≤ x.2.2.2
    · rw [if_pos c2]
      unfold pathE
      by_cases hi : f' ≤ i ∧ i < t'
      · rw [if_pos hi, if_pos hi]
        simp only [List.mem_append, List.mem_singleton]
        constructor
        · rintro ((h | h) | h)
          · exact .inl (.inl h)
          · exact .inr ⟨h, by omega, by omega, by omega, by omega⟩
          · exact .inl (.inr h)
        · rintro ((h | h) | ⟨h, _⟩)
          · exact .inl (.inl h)
          · exact .inr h
          · exact .inl (.inr h)
      · rw [if_neg hi, if_neg hi]
        constructor
        · intro h; cases h
        · rintro (h | ⟨_, _, _, h1, h2⟩)
          · cases h
          · exact absurd ⟨h1, h2⟩ hi
    rw [if_neg c2]
    unfold pathE
    by_cases hi : f' ≤ i ∧ i < t'
    · rw [if_pos hi, if_pos hi]
      rcases hd with ⟨g1, hl, hr⟩ | ⟨g1, rfl, rfl⟩
      · have il := pathE_put x y i hl
        have ir := pathE_put x y i hr
        simp only [List.mem_append, il, ir]
        constructor
        · rintro (h | (h | ⟨h, h1, h2, _, _⟩) | (h | ⟨h, h1, h2, _, _⟩))
          · exact .inl (.inl h)
          · exact .inl (.inr (.inl h))
          · exact .inr ⟨h, h1, h2, hi.1, hi.2⟩
          · exact .inl (.inr (.inr h))
          · exact .inr ⟨h, h1, h2, hi.1, hi.2⟩
        · rintro ((h | h | h) | ⟨h, h1, h2, _, _⟩)
          · exact .inl h
          · exact .inr (.inl (.inl h))
          · exact .inr (.inr (.inl h))
          · by_cases c : i < (f' + t') / 2
            · exact .inr (.inl (.inr ⟨h, h1, h2, by omega, c⟩))
            · exact .inr (.inr (.inr ⟨h, h1, h2, by omega, by omega⟩))
      · exfalso; omega
    · rw [if_neg hi, if_neg hi]
      constructor
      · intro h; cases h
      · rintro (h | ⟨_, _, _, h1, h2⟩)
        · cases h
        · exact absurd ⟨h1, h2⟩ hi
theorem pathE_emp : ∀ {T : Sg}, Emp T → ∀ i, pathE T i = []
  | .nil, _, _ => rfl
  | .node b f t es l r, h, i => by
    obtain ⟨rfl, hl, hr⟩ := h
    unfold pathE
    rw [pathE_emp hl, pathE_emp hr]
    split <;> rfl
/-- The number of nodes of a span at which an interval stands. -/
def nodN : Nat → Nat → Nat → Nat → Nat → Nat
  | 0, _, _, _, _ => 0
  | d + 1, f, t, a, b => if b ≤ f ∨ t ≤ a then 0 else if a ≤ f ∧ t ≤ b then 1 else nodN d f ((f + t) / 2) a b + nodN d ((f + t) / 2) t a b
theorem cntT_nod (x : Iv) : ∀ {T : Sg} {f t : Nat} (d : Nat), Sh f t T → f < t → t - f ≤ d → cntT x T = nodN d f t x.2.2.1 x.2.2.2
  | .nil, f, t, d, h, hft, _ => by have : t ≤ f := h; omega
  | .node b f' t' es l r, f, t, 0, h, hft, hd => by omega
  | .node b f' t' es l r, f, t, d + 1, h, hft, hd => by
    obtain ⟨rfl, rfl, _, hc⟩ := h
    rw [cntT_node]
    unfold nodN
    by_cases c1 : x.2.2.2 ≤ f' ∨ t' ≤ x.2.2.1
    · rw [if_pos c1, if_pos c1]
    rw [if_neg c1, if_neg c1]
    by_cases c2 : x.2.2.1 ≤ f' ∧ t' ≤ x.2.2.2
    · rw [if_pos c2, if_pos c2]
    rw [if_neg c2, if_neg c2]
    rcases hc with ⟨g1, hl, hr⟩ | ⟨g1, rfl, rfl⟩
    · rw [cntT_nod x d hl (by omega) (by omega), cntT_nod x d hr (by omega) (by omega)]
    · exfalso; omega
theorem nodN_le : ∀ (d f t a b : Nat), t - f ≤ d → f < t → nodN d f t a b ≤ t - f
  | 0, f, t, a, b, hd, hft => by omega
  | d + 1, f, t, a, b, hd, hft => by
    unfold nodN
    split
    · omega
    · split
      · omega
      · rename_i h1 h2
        have h3 := nodN_le d f ((f + t) / 2) a b (by omega) (by omega)
        have h4 := nodN_le d ((f + t) / 2) t a b (by omega) (by omega)
        omega
/-- The sum over intervals. -/
def unS (len : Nat) (out : List Iv) : Nat := (out.map (fun x => nodN len 0 len x.2.2.1 x.2.2.2)).sum
theorem unS_take {len : Nat} {out : List Iv} {i : Nat} {x : Iv} (h : out[i]? = some x) : unS len (out.take (i + 1)) = unS len (out.take i) + nodN len 0 len x.2.2.1 x.2.2.2 := by
  unfold unS
  rw [take_snoc h, List.map_append, List.sum_append]
  simp
theorem unS_le (len : Nat) (h : 0 < len) : ∀ out : List Iv, unS len out ≤ out.length * len
  | [] => by simp [unS]
  | x :: out => by
    have h1 := unS_le len h out
    have h2 := nodN_le len 0 len x.2.2.1 x.2.2.2 (by omega) h
    unfold unS at h1 ⊢
    rw [List.map_cons, List.sum_cons, List.length_cons, Nat.succ_mul]
    omega
/-- What the intervals satisfy. -/
theorem rdS_bd (n len : Nat) : ∀ (l : List Ev) {s : RS}, rdS n len l = some s → l.length ≤ len → ∀ x ∈ s.out, x.1 < n ∧ x.2.1 < n ∧ x.2.2.1 < l.length ∧ x.2.2.1 < x.2.2.2 ∧ x.2.2.2 ≤ len := by
  refine snoc_ind ?_ ?_
  · intro s h _ x hx; injection h with h; subst h; cases hx
  · intro l x ih s h hlen y hy
    have hl : (l ++ [x]).length = l.length + 1 := by simp
    rw [hl] at hlen ⊢
    rw [rdS_snoc] at h
    cases h1 : rdS n len l with
    | none => rw [h1] at h; cases h
    | some s0 =>
      rw [h1] at h
      have I := rdS_inv n len l h1
      have J := ih h1 (by omega)
      have J' : ∀ x ∈ s0.out, x.1 < n ∧ x.2.1 < n ∧ x.2.2.1 < l.length + 1 ∧ x.2.2.1 < x.2.2.2 ∧ x.2.2.2 ≤ len := fun z hz => by
        have := J z hz; omega
      change stq n len s0 x = some s at h
      unfold stq at h
      split at h
      · rename_i hok
        unfold okE at hok
        simp at hok
        split at h
        · split at h
          · injection h with h; subst h
            rcases List.mem_append.1 hy with hy | hy
            · exact J' y hy
            · rw [List.mem_singleton] at hy
              subst hy
              have := I.i
              show min x.2.1.toNat x.2.2.toNat < n ∧ max x.2.1.toNat x.2.2.toNat < n ∧ s0.i < l.length + 1 ∧ s0.i < len ∧ len ≤ len
              omega
          · split at h
            · injection h with h; subst h; exact J' y hy
            · cases h
        · split at h
          · injection h with h; subst h
            change y ∈ endI s0.out _ _ at hy
            unfold endI at hy
            split at hy
            · exact J' y hy
            · rename_i k a b f t hk
              rcases List.mem_or_eq_of_mem_set hy with hy | hy
              · exact J' y hy
              · subst hy
                have q1 := J _ (List.mem_of_getElem? hk)
                have q2 := I.i
                dsimp only at q1 ⊢
                omega
          · split at h
            · injection h with h; subst h; exact J' y hy
            · cases h
      · cases h
theorem readS_bd {n : Int} {l : List Ev} {out : List Iv} (h : readS n l = some out) : ∀ x ∈ out, (x.1 : Int) < n ∧ (x.2.1 : Int) < n ∧ x.2.2.1 < x.2.2.2 ∧ x.2.2.2 ≤ l.length := by
  unfold readS at h
  split at h
  · rename_i c
    cases h1 : rdS n.toNat l.length l with
    | none => rw [h1] at h; cases h
    | some s =>
      rw [h1] at h; injection h with h; subst h
      intro x hx
      have := rdS_bd _ _ _ h1 (Nat.le_refl _) x hx
      omega
  · cases h
/-- The edges, put. -/
def putAll (out : List Iv) (T : Sg) : Sg := out.foldl (fun T x => putT x T) T
theorem putAll_snoc (out : List Iv) (x : Iv) (T : Sg) : putAll (out ++ [x]) T = putT x (putAll out T) := by unfold putAll; rw [List.foldl_append]; rfl
theorem putAll_sh {f t : Nat} : ∀ (out : List Iv) {T : Sg}, Sh f t T → Sh f t (putAll out T)
  | [], _, h => h
  | x :: out, _, h => putAll_sh out (h.put x)
theorem putAll_mp : ∀ (out : List Iv) (T : Sg), mp (putAll out T) ≤ mp T + out.length
  | [], _ => Nat.le_refl _
  | x :: out, T => by
    have h1 := putAll_mp out (putT x T)
    have h2 := mp_put x T
    show mp (putAll out (putT x T)) ≤ _
    rw [List.length_cons]; omega
theorem putAll_path {f t : Nat} (i : Nat) (hi : f ≤ i ∧ i < t) (y : Iv) : ∀ (out : List Iv) {T : Sg}, Sh f t T → (y ∈ pathE (putAll out T) i ↔ y ∈ pathE T i ∨ (y ∈ out ∧ y.2.2.1 ≤ i ∧ i < y.2.2.2))
  | [], T, _ => by simp [putAll]
  | x :: out, T, h => by
    show y ∈ pathE (putAll out (putT x T)) i ↔ _
    rw [putAll_path i hi y out (h.put x), pathE_put x y i h, List.mem_cons]
    constructor
    · rintro ((h1 | ⟨h1, h2, h3, _⟩) | ⟨h1, h2⟩)
      · exact .inl h1
      · subst h1; exact .inr ⟨.inl rfl, h2, h3⟩
      · exact .inr ⟨.inr h1, h2⟩
    · rintro (h1 | ⟨h1 | h1, h2, h3⟩)
      · exact .inl (.inl h1)
      · subst h1; exact .inl (.inr ⟨rfl, h2, h3, hi.1, hi.2⟩)
      · exact .inr ⟨h1, h2, h3⟩
/-- What segments leaves. -/
def SgP (w : World) (len : Nat) (o : Option (List Iv)) (e : Ending) (w' : World) : Prop := match o with
  | none => e = .returned (.tuple #[.pointer none, .int .i64 0, .bool false]) ∧ Fr F0 w w'
  | some out => ∃ T, e = .returned (.tuple #[T.ptr, .int .i64 (unS len out : Int), .bool true]) ∧ TM w' w.heap.size T (fun k => w.heap.size ≤ k ∧ k < w'.heap.size) ∧ Sh 0 len T ∧ mp T ≤ out.length ∧ (∀ i, i < len → ∀ y, y ∈ pathE T i ↔ (y ∈ out ∧ y.2.2.1 ≤ i ∧ i < y.2.2.2)) ∧ Fr F0 w w'
set_option maxRecDepth 100000 in
set_option maxHeartbeats 8000000 in
theorem segments_any {w : World} {a : Option Addr} {N c : Nat} {n : Int} {l : List Ev} (hl : ArgE w a N c l) : Calls Try.prog 39 #[.int .i64 n, .slice a N c] w (SgP w N (readS n l)) := by
  have HR := Lib.hid (read_any (n := n) hl)
  have hN := Lib.hid hl.len
  clear hl
  cases h : readS n l with
  | none =>
    rw [h] at HR
    clear h
    go_enter Try.func39, Try.ntmps39
    go_wp2_with fail
    refine HR.out.mono ?_
    rintro e w1 ⟨rfl, F1⟩
    have G1 := Lib.hid F1
    clear F1
    go_wp2_with fail
    go_ret3
    exact ⟨rfl, G1.out⟩
  | some out =>
    rw [h] at HR
    obtain ⟨m, hm⟩ : ∃ m, m = out.length := ⟨_, rfl⟩
    have hml := readS_len h
    have hbd := readS_bd h
    rw [hN.out] at hml hbd
    have hm2 : m ≤ 2000 ∧ N ≤ 2000 := by omega
    have HM := Lib.hid hm
    have HBD := Lib.hid hbd
    clear h hml hbd
    go_enter Try.func39, Try.ntmps39
    go_wp2_with fail
    refine HR.out.mono ?_
    rintro e w1 ⟨a1, c1, rfl, O1, F1⟩
    rw [← hm] at O1 ⊢
    have G1 := Lib.hid F1
    have P1 := Lib.hid O1
    have HB := Lib.hid (build_any N 0 N w1 (by omega) (by omega) (by omega))
    clear F1 O1 hm HR
    go_wp2_with fail
    refine HB.out.mono ?_
    rintro e w2 ⟨T0, rfl, sT, eT, tT, F2⟩
    have HT := Lib.hid (And.intro sT (And.intro eT tT))
    have G2 := Lib.hid F2
    clear sT eT tT F2 HB
    obtain ⟨pt, hpt⟩ : ∃ v, v = T0.adr := ⟨_, rfl⟩
    unfold Sg.ptr
    rw [← hpt]
    have Hpt := Lib.hid hpt
    clear hpt
    go_wp2_with fail
    go_loopw [10, 26] (fun s10 s26 wr => ∃ (i k : Nat) (M : Nat → Prop), i ≤ m ∧ s26 = .int .i64 i ∧ s10 = .int .i64 k ∧ Hid (k = unS N (out.take i)) ∧ Hid (TM wr w1.heap.size (putAll (out.take i) T0) M ∧ (∀ j, M j → w1.heap.size ≤ j ∧ j < wr.heap.size) ∧ Fr F0 w1 wr ∧ (putAll (out.take i) T0).adr = pt)) (fun _ s26 _ => m - (intOf s26).toNat)
    case atStart =>
      refine ⟨0, 0, fun k => w1.heap.size ≤ k ∧ k < w2.heap.size, Nat.zero_le _, rfl, rfl, Lib.hid rfl, Lib.hid ⟨HT.out.2.2, fun j hj => hj, G2.out, Hpt.out.symm⟩⟩
    case round =>
      obtain ⟨i, k, M, hi, rfl, rfl, Hk, H⟩ := hrel
      by_cases hlt : i < m
      · obtain ⟨⟨xa, xb, xf, xt⟩, hx⟩ : ∃ x, out[i]? = some x := ⟨_, List.getElem?_eq_getElem (by rw [← HM.out]; exact hlt)⟩
        have hxb := HBD.out _ (List.mem_of_getElem? hx)
        dsimp only at hxb
        obtain ⟨g, rfl, _, _, hc, _⟩ := (OwnZ.fr0 P1.out H.out.2.2.1).at (by omega)
        have x0 := hc (i * 4) (.int .i64 (xa : Int)) (by have := ivs_get hx 0 (by omega); rw [Nat.add_zero] at this; rw [this]; rfl)
        have x1 := hc (i * 4 + 1) (.int .i64 (xb : Int)) (by rw [ivs_get hx 1 (by omega)]; rfl)
        have x2 := hc (i * 4 + 2) (.int .i64 (xf : Int)) (by rw [ivs_get hx 2 (by omega)]; rfl)
        have x3 := hc (i * 4 + 3) (.int .i64 (xt : Int)) (by rw [ivs_get hx 3 (by omega)]; rfl)
        have hlt' : (i : Int) < (m : Int) := by omega
        have HX := Lib.hid hx
        have hN0 : 0 < N := by omega
        have sP := putAll_sh (out.take i) HT.out.1
        have hcn := cntT_nod (xa, xb, xf, xt) N sP hN0 (by omega)
        have hns := unS_take (len := N) hx
        have hle := unS_le N hN0 (out.take (i + 1))
        have hkl : unS N (out.take (i + 1)) ≤ 2001 * 2000 := by
          refine Nat.le_trans hle (Nat.mul_le_mul ?_ ?_)
          · rw [List.length_take]; omega
          · omega
        obtain ⟨q, hq⟩ : ∃ q, q = nodN N 0 N xf xt := ⟨_, rfl⟩
        have hkq : unS N (out.take (i + 1)) = k + q := by rw [hns, Hk.out, hq]
        have hkb : k + q ≤ 2001 * 2000 := by omega
        have HKQ := Lib.hid hkq
        obtain ⟨w3, hw3⟩ : ∃ w3, wr.alloc (.cells #[.int .i64 (xa : Int), .int .i64 (xb : Int), .int .i64 (xf : Int), .int .i64 (xt : Int)] 83) = w3 := ⟨_, rfl⟩
        obtain ⟨b3, hb3⟩ : ∃ b, wr.heap.size = b := ⟨_, rfl⟩
        have B3 : Blk w3 b3 83 (iv4 (xa, xb, xf, xt)) := by rw [← hw3, ← hb3]; exact Blk.new wr 83 _
        have F3 : Fr F0 wr w3 := by rw [← hw3]; exact (Fr.refl _ _).alloc _
        have y0 := B3.cell (i := 0) rfl
        have y1 := B3.cell (i := 1) rfl
        have y2 := B3.cell (i := 2) rfl
        have y3 := B3.cell (i := 3) rfl
        have HPut : Hid (Calls Try.prog 56 #[.pointer pt, .agg #[.int .i64 (xa : Int), .int .i64 (xb : Int), .int .i64 (xf : Int), .int .i64 (xt : Int)]] w3 fun e w' => e = .returned (.int .i64 (q : Int)) ∧ TM w' w1.heap.size (putT (xa, xb, xf, xt) (putAll (out.take i) T0)) (ext M w3 w') ∧ Fr M w3 w') := Lib.hid (by
          have := put_any xa xb xf xt ⟨by omega, by omega⟩ (putAll (out.take i) T0) 0 N w3 w1.heap.size M (TM.fr0 F3 H.out.1) sP (by omega) (Nat.le_trans H.out.2.2.1.size F3.size) (fun j hj => Nat.lt_of_lt_of_le (H.out.2.1 j hj).2 F3.size) (by have h1 := putAll_mp (out.take i) T0; have h2 := mp_emp HT.out.2.1; rw [List.length_take] at h1; omega)
          unfold Sg.ptr PtP at this
          rw [H.out.2.2.2, hcn, ← hq] at this
          exact this)
        have G3 := Lib.hid (H.out.2.2.1.trans0 F3)
        have HF3 := Lib.hid F3
        have hwr : IntKind.i64.wrap ((k : Int) + (q : Int)) = (k : Int) + (q : Int) := wI (by omega) (by omega)
        clear hc hx B3 F3 sP hcn hns hle hkl hq hkq hxb hN0
        go_wp2_with fail
        refine HPut.out.mono ?_
        rintro e w4 ⟨rfl, T4, F4⟩
        have HT4 := Lib.hid T4
        have HF4 := Lib.hid F4
        clear T4 F4 HPut
        go_wp2_with fail
        go_roundw
        case rel =>
          have ep : putAll (out.take (i + 1)) T0 = putT (xa, xb, xf, xt) (putAll (out.take i) T0) := by rw [take_snoc HX.out, putAll_snoc]
          refine ⟨i + 1, k + q, ext M w3 w4, by omega, by go_num, rfl, Lib.hid HKQ.out.symm, Lib.hid ⟨by rw [ep]; exact HT4.out, fun j hj => ?_, G3.out.trans HF4.out (fun j hj h => by have := (H.out.2.1 j h).1; omega), by rw [ep, putT_adr]; exact H.out.2.2.2⟩⟩
          have s1 := HF3.out.size
          have s2 := HF4.out.size
          have s3 := H.out.2.2.1.size
          rcases hj with hj | hj
          · have := H.out.2.1 j hj; omega
          · omega
        case measure => simp [intOf]; omega
      · obtain rfl : m = i := by omega
        go_wp2_with fail
        go_ret3
        have ht : out.take m = out := List.take_of_length_le (by rw [← HM.out]; exact Nat.le_refl _)
        have h1 := H.out
        have h2 := Hk.out
        rw [ht] at h1 h2
        obtain ⟨h3, h4, h5, h6⟩ := h1
        refine ⟨putAll out T0, by unfold Sg.ptr; rw [h6, h2]; rfl, (h3.low G1.out.size).mono (fun j hj => ⟨by have := h4 j hj; have := G1.out.size; omega, (h4 j hj).2⟩), putAll_sh _ HT.out.1, by have h7 := putAll_mp out T0; have h8 := mp_emp HT.out.2.1; omega, fun i hi y => ?_, G1.out.trans0 h5⟩
        rw [putAll_path i ⟨by omega, hi⟩ y out HT.out.1, pathE_emp HT.out.2.1]
        constructor
        · rintro (h | h)
          · cases h
          · exact h
        · exact .inr
set_option maxRecDepth 100000 in
theorem Unions_any {w : World} {a : Option Addr} {N c : Nat} {n : Int} {l : List Ev} (hl : ArgE w a N c l) : Calls Try.prog 17 #[.int .i64 n, .slice a N c] w fun e w' => e = .returned (.tuple (match readS n l with | none => #[.int .i64 0, .int .i64 1] | some out => #[.int .i64 (unS N out : Int), .int .i64 0])) ∧ Fr F0 w w' := by
  have HR := Lib.hid (segments_any (n := n) hl)
  clear hl
  cases h : readS n l with
  | none =>
    rw [h] at HR
    clear h
    go_enter Try.func17, Try.ntmps17
    go_wp2_with fail
    refine HR.out.mono ?_
    rintro e w1 ⟨rfl, F1⟩
    have G1 := Lib.hid F1
    clear F1
    go_wp2_with fail
    go_ret2
    exact ⟨rfl, G1.out⟩
  | some out =>
    rw [h] at HR
    clear h
    go_enter Try.func17, Try.ntmps17
    go_wp2_with fail
    refine HR.out.mono ?_
    rintro e w1 ⟨T, rfl, _, _, _, _, F1⟩
    have G1 := Lib.hid F1
    clear F1
    go_wp2_with fail
    go_ret2
    exact ⟨rfl, G1.out⟩
end Go.Proofs.Ytihcaemheknjbaa
