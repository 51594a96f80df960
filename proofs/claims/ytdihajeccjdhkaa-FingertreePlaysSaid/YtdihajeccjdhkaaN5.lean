/- FingertreeSums: the walk. -/
import Derived.Test.YtdihajeccjdhkaaA20
import Derived.Test.YtdihajeccjdhkaaComSort
namespace Go.Proofs.Ytdihajeccjdhkaa
open Go.RowKit
attribute [local go_sem ↓] Go.wp_at_zero Go.wp_at_succ
theorem three {a b c m : Nat} (ha : a ≤ m) (hb : b ≤ m) (hc : c ≤ m) {ys : List Int} (hp : ys.Perm [(a : Int), b, c]) (hw : ys.Pairwise (· ≤ ·)) : ∃ i j k : Nat, ys = [(i : Int), j, k] ∧ i ≤ j ∧ j ≤ k ∧ k ≤ m := by
  have hl := hp.length_eq
  match ys, hl with
  | [x, y, z], _ =>
    have hm : ∀ v ∈ [x, y, z], 0 ≤ v ∧ v ≤ (m : Int) := by
      intro v hv
      have h := hp.mem_iff.1 hv
      simp at h
      omega
    have h1 := hm x (by simp)
    have h2 := hm y (by simp)
    have h3 := hm z (by simp)
    simp at hw
    exact ⟨x.toNat, y.toNat, z.toNat, by rw [Int.toNat_of_nonneg h1.1, Int.toNat_of_nonneg h2.1, Int.toNat_of_nonneg h3.1], by omega, by omega, by omega⟩
theorem Sum_q {xs : List Int} {p : Option Addr} {w : World} (h : TK w xs p) (hs : Tr.Small xs) (hn : xs.length ≤ 4096) {f g : Nat} (h1 : f ≤ g) (h2 : g ≤ xs.length) {V : Int} (hV : V = preS xs g - preS xs f) (n : Nat) :
    Calls Try.prog 14 #[.pointer p, .int .i64 f, .int .i64 g] (w.drewN n) fun e w'' => e = .returned (.tuple #[.int .i64 V, .int .i64 0]) ∧ ∃ m, w'' = w.drewN m := by
  refine qmore (fun q => ?_) n
  obtain ⟨t, k1, k2, rfl⟩ := h
  refine (Sum_any (k1.fr0 ((Fr.refl F0 w).drewN q)) ⟨hs, by show t.list.length ≤ _; omega⟩ (f : Int) (g : Int)).mono ?_
  rintro e w' ⟨he, q', hq⟩
  have es : sumS t.list (f : Int) (g : Int) = (preS t.list g - preS t.list f, 0) := by
    unfold sumS
    rw [if_neg (by omega), Int.toNat_natCast, Int.toNat_natCast]
  rw [es, ← hV] at he
  exact ⟨he, q', hq⟩
theorem search_ok (xs : List Int) (s : Int) : (searchS xs s = (0, 12) ∧ ∀ i, i ≤ xs.length → preS xs i < s) ∨ ∃ k : Nat, k ≤ xs.length ∧ searchS xs s = ((k : Int), 0) ∧ s ≤ preS xs k ∧ ∀ j, j < k → preS xs j < s := by
  by_cases h : ∃ k, k ≤ xs.length ∧ s ≤ preS xs k
  · right
    obtain ⟨k, hk1, hk2, hk3⟩ : ∃ k, k ≤ xs.length ∧ s ≤ preS xs k ∧ ∀ j, j < k → preS xs j < s := by
      obtain ⟨K, hK⟩ := h
      induction K using Nat.strongRecOn with
      | ind K ih =>
        by_cases hj : ∃ j, j < K ∧ s ≤ preS xs j
        · obtain ⟨j, h1, h2⟩ := hj
          exact ih j h1 ⟨by omega, h2⟩
        · exact ⟨K, hK.1, hK.2, fun j h1 => by
            by_cases h2 : preS xs j < s
            · exact h2
            · exact absurd ⟨j, h1, by omega⟩ hj⟩
    refine ⟨k, hk1, ?_, hk2, hk3⟩
    unfold searchS
    by_cases h0 : s ≤ 0
    · rw [if_pos h0]
      have : k = 0 := by
        rcases Nat.eq_zero_or_pos k with h | h
        · exact h
        · have := hk3 0 h; rw [preS_0] at this; omega
      rw [this]; rfl
    · rw [if_neg h0, fg_first xs s k hk1 hk3 hk2]
  · left
    have hall : ∀ i, i ≤ xs.length → preS xs i < s := fun i hi => by
      by_cases h2 : preS xs i < s
      · exact h2
      · exact absurd ⟨i, hi, by omega⟩ h
    refine ⟨?_, hall⟩
    unfold searchS
    have h0 := hall 0 (by omega)
    rw [preS_0] at h0
    rw [if_neg (by omega), fg_never xs s hall]
theorem middle_sum {xs : List Int} {i k : Nat} (h : i ≤ k) (hk : k ≤ xs.length) : preS ((xs.take k).drop i) (k - i) - preS ((xs.take k).drop i) 0 = preS xs k - preS xs i := by
  rw [preS_0, ← part_sum h, List.drop_take]
  unfold preS
  rw [List.take_take, Nat.min_self]
  omega
set_option maxRecDepth 100000 in
set_option maxHeartbeats 16000000 in
theorem Sums_main (hS : SortP 35) {l : Option Addr} {m cl : Nat} {xs : List Int} {a b c : Nat} {s : Int} {w : World} (rl : Rd w l m (ints xs)) (hcl : m ≤ cl) (hm : m ≤ 150) (hz : madeI xs = 0) (ha : a ≤ 255) (hb : b ≤ 255) (hc : c ≤ 255) :
    Calls Try.prog 8 #[.slice l m cl, .int .u8 a, .int .u8 b, .int .u8 c, .int .i64 s] w fun e w' => e = .returned (.bool true) ∧ Fr F0 w w' := by
  have xl : xs.length = m := by simpa using rl.len
  obtain ⟨sx, _⟩ := madeI_ok hz
  have Rl := Lib.hid rl
  have Sx := Lib.hid sx
  have Hl := Lib.hid (And.intro xl (And.intro hcl hm))
  obtain ⟨qa, hqa⟩ : ∃ q, q = a % (m + 1) := ⟨_, rfl⟩
  obtain ⟨qb, hqb⟩ : ∃ q, q = b % (m + 1) := ⟨_, rfl⟩
  obtain ⟨qc, hqc⟩ : ∃ q, q = c % (m + 1) := ⟨_, rfl⟩
  have ma : (a : Int) % ((m : Int) + 1) = (qa : Int) := by rw [hqa]; simp
  have mb : (b : Int) % ((m : Int) + 1) = (qb : Int) := by rw [hqb]; simp
  have mc : (c : Int) % ((m : Int) + 1) = (qc : Int) := by rw [hqc]; simp
  have ta : Int.tmod (a : Int) ((m : Int) + 1) = (qa : Int) := by rw [Int.tmod_eq_emod_of_nonneg (by omega)]; exact ma
  have tb : Int.tmod (b : Int) ((m : Int) + 1) = (qb : Int) := by rw [Int.tmod_eq_emod_of_nonneg (by omega)]; exact mb
  have tc : Int.tmod (c : Int) ((m : Int) + 1) = (qc : Int) := by rw [Int.tmod_eq_emod_of_nonneg (by omega)]; exact mc
  have m0 : (((m : Int) + 1) == 0) = false := by simp; omega
  have Hq := Lib.hid (And.intro (show qa ≤ m by rw [hqa]; have := Nat.mod_lt a (show 0 < m + 1 by omega); omega) (And.intro (show qb ≤ m by rw [hqb]; have := Nat.mod_lt b (show 0 < m + 1 by omega); omega) (show qc ≤ m by rw [hqc]; have := Nat.mod_lt c (show 0 < m + 1 by omega); omega)))
  have ca : IntKind.i64.wrap (a : Int) = (a : Int) := wI2 (by omega) (by omega)
  have cb : IntKind.i64.wrap (b : Int) = (b : Int) := wI2 (by omega) (by omega)
  have cc : IntKind.i64.wrap (c : Int) = (c : Int) := wI2 (by omega) (by omega)
  have d1 : decide (150 < m) = false := by simp; omega
  have d1' : decide ((150 : Int) < (m : Int)) = false := by simp; omega
  have hS' := Lib.hid hS
  clear rl sx xl hcl hz hqa hqb hqc hS
  go_enter Try.func8, Try.ntmps8
  go_wp2_with fail
  refine (awake_any _).mono ?_
  rintro e w1 ⟨rfl, F⟩
  have FW := Lib.hid F
  clear F
  go_wp2_with fail
  refine (Make_tk (Rl.out.fr0 FW.out) Hl.out.2.1 Sx.out (by have := Hl.out; omega)).mono ?_
  rintro e w2 ⟨bt, rfl, T, F⟩
  replace FW := Lib.hid (FW.out.trans0 F)
  have Tt := Lib.hid (T)
  clear F T
  have hm150 : m ≤ 150 := Hl.out.2.2
  have w150 : IntKind.i64.wrap ((m : Int) + 1) = (m : Int) + 1 := wI2 (by omega) (by omega)
  clear d1 d1'
  have m1 : ¬ ((m : Int) + 1 = 0) := by omega
  go_wp2_with fail
  go_region_held3 (fun _ => True) (go_keep) (fail)
  all_goals
    have A0 : Fr F0 w2 (w2.alloc (.cells #[.int .i64 qa, .int .i64 qb, .int .i64 qc] 3)).drew := ((Fr.refl _ _).alloc _).drew
    have O3 : Own (w2.alloc (.cells #[.int .i64 qa, .int .i64 qb, .int .i64 qc] 3)).drew w2.heap.size 3 (some ⟨w2.heap.size, 0, none⟩) 3 3 (ints [(qa : Int), qb, qc]) := (Own.lit (w := w2) (B := w2.heap.size) (T := 3) (ints [(qa : Int), qb, qc]) 3 rfl (Nat.le_refl _) (by omega)).fr0 ((Fr.refl _ _).drew)
    have hso := Lib.hid (hS'.out w2.heap.size 3 3 _ [(qa : Int), qb, qc] _ O3 (by omega))
    have HA0 := Lib.hid A0
    clear A0 O3 ma mb mc ta tb tc m0 m1 ca cb cc hS' w150
    generalize (w2.alloc (.cells #[.int .i64 qa, .int .i64 qb, .int .i64 qc] 3)).drew = wS at *
    go_wp2_with fail
    refine hso.out.mono ?_
    rintro e w3 ⟨rfl, ys, hp, hpw, O4, F0'⟩
    have F : Fr F0 w2 w3 := HA0.out.trans F0' (fun k _ h => by
      have h1 := (onBlk_some _ _ _ _).1 h
      omega)
    obtain ⟨i, j, k, hys, hij, hjk, hkm⟩ := three Hq.out.1 Hq.out.2.1 Hq.out.2.2 hp hpw
    subst hys
    obtain ⟨_, hg, _, _, hcells, _⟩ := O4.at (by omega)
    injection hg with hg
    injection hg with hg
    subst hg
    have c0 : w3.cell? ⟨w2.heap.size, 0, none⟩ = some (.int .i64 i) := hcells 0 _ rfl
    have c1 : w3.cell? ⟨w2.heap.size, 1, none⟩ = some (.int .i64 j) := hcells 1 _ rfl
    have c2 : w3.cell? ⟨w2.heap.size, 2, none⟩ = some (.int .i64 k) := hcells 2 _ rfl
    replace Tt := Lib.hid (Tt.out.fr0 F)
    replace FW := Lib.hid (FW.out.trans0 F)
    have Hij := Lib.hid (And.intro hij (And.intro hjk hkm))
    have b0 := preS_bound Sx.out (by have := Hl.out; omega) i
    have b1 := preS_bound Sx.out (by have := Hl.out; omega) j
    have b2 := preS_bound Sx.out (by have := Hl.out; omega) k
    obtain ⟨X, hX⟩ : ∃ X, X = preS xs j - preS xs i := ⟨_, rfl⟩
    obtain ⟨Y, hY⟩ : ∃ X, X = preS xs k - preS xs j := ⟨_, rfl⟩
    obtain ⟨Z, hZ⟩ : ∃ X, X = preS xs k - preS xs i := ⟨_, rfl⟩
    have wXY : IntKind.i64.wrap (X + Y) = Z := by rw [wI2 (by omega) (by omega)]; omega
    have HX := Lib.hid hX
    have HY := Lib.hid hY
    have HZ := Lib.hid hZ
    have wn : X + Y = Z := by omega
    have HwXY := Lib.hid wXY
    clear b0 b1 b2 hX hY hZ hij hjk hkm hp hpw O4 hcells F0' F hso HA0 Hq wn wXY
    have s1 := Lib.hid (Sum_q Tt.out Sx.out (by have := Hl.out; omega) (f := i) (g := j) (by have := Hij.out; omega) (by have := Hij.out; have := Hl.out; omega) HX.out)
    obtain ⟨bp, hbp⟩ : ∃ b, b = w2.heap.size := ⟨_, rfl⟩
    rw [← hbp] at c0 c1 c2 ⊢
    clear hbp
    go_wp2_with fail
    go_quiet (first | (go_at_call 14; with_reducible exact s1.out _) | fail)
    have G : Fr F0 w3 (w3.drewN nq) := (Fr.refl _ _).drewN _
    replace Tt := Lib.hid (Tt.out.fr0 G)
    replace FW := Lib.hid (FW.out.trans0 G)
    replace c0 := G.cell c0 id
    replace c1 := G.cell c1 id
    replace c2 := G.cell c2 id
    clear G
    generalize w3.drewN nq = w4 at *
    have s2 := Lib.hid (Sum_q Tt.out Sx.out (by have := Hl.out; omega) (f := j) (g := k) (by have := Hij.out; omega) (by have := Hij.out; have := Hl.out; omega) HY.out)
    clear s1
    go_wp2_with fail
    go_quiet (first | (go_at_call 14; with_reducible exact s2.out _) | fail)
    have G : Fr F0 w4 (w4.drewN nq) := (Fr.refl _ _).drewN _
    replace Tt := Lib.hid (Tt.out.fr0 G)
    replace FW := Lib.hid (FW.out.trans0 G)
    replace c0 := G.cell c0 id
    replace c1 := G.cell c1 id
    replace c2 := G.cell c2 id
    clear G
    generalize w4.drewN nq = w5 at *
    have s3 := Lib.hid (Sum_q Tt.out Sx.out (by have := Hl.out; omega) (f := i) (g := k) (by have := Hij.out; omega) (by have := Hij.out; have := Hl.out; omega) HZ.out)
    clear s2
    go_wp2_with fail
    go_quiet (first | (go_at_call 14; with_reducible exact s3.out _) | fail)
    have G : Fr F0 w5 (w5.drewN nq) := (Fr.refl _ _).drewN _
    replace Tt := Lib.hid (Tt.out.fr0 G)
    replace FW := Lib.hid (FW.out.trans0 G)
    replace c0 := G.cell c0 id
    replace c1 := G.cell c1 id
    replace c2 := G.cell c2 id
    clear G
    generalize w5.drewN nq = w6 at *
    have wXY := HwXY.out
    clear s3
    go_wp2_with fail
    clear wXY HwXY c1
    refine (Split_tk Tt.out Sx.out (by have := Hl.out; omega) (i := k) (by have := Hij.out; have := Hl.out; omega)).mono ?_
    rintro e w7 ⟨bl, br, rfl, T, _, F⟩
    replace Tt := Lib.hid (Tt.out.fr0 F)
    replace FW := Lib.hid (FW.out.trans0 F)
    replace c0 := F.cell c0 id
    have Tl := Lib.hid T
    clear F T c2
    go_wp2_with fail
    refine (Split_tk Tl.out (fun y hy => Sx.out y (List.mem_of_mem_take hy)) (by rw [List.length_take]; have := Hl.out; omega) (i := i) (by rw [List.length_take]; have := Hij.out; have := Hl.out; omega)).mono ?_
    rintro e w8 ⟨bx, bmid, rfl, _, T, F⟩
    replace Tt := Lib.hid (Tt.out.fr0 F)
    replace FW := Lib.hid (FW.out.trans0 F)
    have Tm := Lib.hid T
    clear F T c0 Tl
    have hml : ((xs.take k).drop i).length = k - i := by rw [List.length_drop, List.length_take]; have := Hij.out; have := Hl.out; omega
    have hLn := Len_tk Tm.out
    rw [hml] at hLn
    have HsM := Lib.hid (Sum_tk Tm.out (fun y hy => Sx.out y (List.mem_of_mem_take (List.mem_of_mem_drop hy))) (by rw [hml]; have := Hij.out; have := Hl.out; omega) (f := 0) (g := k - i) (by omega) (by rw [hml]; omega))
    rw [middle_sum (by have := Hij.out; omega) (by have := Hij.out; have := Hl.out; omega), ← HZ.out] at HsM
    have HLn := Lib.hid hLn
    clear hLn hml
    go_wp2_with fail
    refine HLn.out.mono ?_; rintro e w9 ⟨rfl, rfl⟩
    go_wp2_with fail
    refine HsM.out.mono ?_
    rintro e w9 ⟨rfl, F⟩
    replace Tt := Lib.hid (Tt.out.fr0 F)
    replace FW := Lib.hid (FW.out.trans0 F)
    clear F HsM HLn Tm
    have HS := Lib.hid (Search_tk Tt.out Sx.out (by have := Hl.out; omega) s)
    go_wp2_with fail
    rcases search_ok xs s with ⟨e1, hall⟩ | ⟨K, hK, e1, hsK, hall⟩
    · rw [e1] at HS
      refine HS.out.mono ?_
      rintro e w10 ⟨rfl, F⟩
      replace Tt := Lib.hid (Tt.out.fr0 F)
      replace FW := Lib.hid (FW.out.trans0 F)
      have Hall := Lib.hid hall
      have w150 : IntKind.i64.wrap ((m : Int) + 1) = (m : Int) + 1 := wI2 (by omega) (by omega)
      clear F HS hall e1 HX HY HZ Hij
      go_wp2_with fail
      go_loopw [170] (fun s0 wr => ∃ n : Nat, n ≤ m + 1 ∧ s0 = .int .i64 n ∧ Hid (TK wr xs (some ⟨bt, 0, none⟩)) ∧ Hid (Fr F0 w wr)) (fun s0 _ => m + 1 - (intOf s0).toNat)
      case atStart => exact ⟨0, by omega, rfl, Tt, FW⟩
      case round =>
        clear Tt FW
        obtain ⟨n, hn, rfl, Tt, FW⟩ := hrel
        by_cases hlt : n < m + 1
        · have h1 : (n : Int) < (m : Int) + 1 := by omega
          have HSn := Lib.hid (Sum_tk Tt.out Sx.out (by have := Hl.out; omega) (f := 0) (g := n) (by omega) (by have := Hl.out; omega))
          obtain ⟨V, hV⟩ : ∃ V, V = preS xs n - preS xs 0 := ⟨_, rfl⟩
          rw [← hV] at HSn
          have h2 : V < s := by have := Hall.out n (by have := Hl.out; omega); rw [hV, preS_0]; omega
          have h3 : decide (s ≤ V) = false := by simp; omega
          clear hV
          go_wp2_with fail
          refine HSn.out.mono ?_
          rintro e w11 ⟨rfl, F⟩
          replace Tt := Lib.hid (Tt.out.fr0 F)
          replace FW := Lib.hid (FW.out.trans0 F)
          clear F HSn
          go_wp2_with fail
          go_round
          case rel => exact ⟨n + 1, by omega, by go_num, Tt, FW⟩
          case measure => simp [intOf]; omega
        · obtain rfl : n = m + 1 := by omega
          go_wp2_with fail
          go_ret
          exact ⟨rfl, FW.out⟩
    · rw [e1] at HS
      refine HS.out.mono ?_
      rintro e w10 ⟨rfl, F⟩
      replace Tt := Lib.hid (Tt.out.fr0 F)
      replace FW := Lib.hid (FW.out.trans0 F)
      have Hall := Lib.hid hall
      have HSK := Lib.hid (Sum_tk Tt.out Sx.out (by have := Hl.out; omega) (f := 0) (g := K) (by omega) hK)
      obtain ⟨V, hV⟩ : ∃ V, V = preS xs K - preS xs 0 := ⟨_, rfl⟩
      rw [← hV] at HSK
      have h2 : s ≤ V := by rw [hV, preS_0]; omega
      have h3 : decide (V < s) = false := by simp; omega
      have hKm : K ≤ m := by have := Hl.out; omega
      clear F HS hall e1 HX HY HZ Hij hV hK hsK
      go_wp2_with fail
      refine HSK.out.mono ?_
      rintro e w11 ⟨rfl, F⟩
      replace Tt := Lib.hid (Tt.out.fr0 F)
      replace FW := Lib.hid (FW.out.trans0 F)
      clear F HSK
      go_wp2_with fail
      clear h2 h3
      go_loopw [203] (fun s0 wr => ∃ n : Nat, n ≤ K ∧ s0 = .int .i64 n ∧ Hid (TK wr xs (some ⟨bt, 0, none⟩)) ∧ Hid (Fr F0 w wr)) (fun s0 _ => K - (intOf s0).toNat)
      case atStart => exact ⟨0, by omega, rfl, Tt, FW⟩
      case round =>
        clear Tt FW
        obtain ⟨n, hn, rfl, Tt, FW⟩ := hrel
        by_cases hlt : n < K
        · have h1 : (n : Int) < (K : Int) := by omega
          have HSn := Lib.hid (Sum_tk Tt.out Sx.out (by have := Hl.out; omega) (f := 0) (g := n) (by omega) (by have := Hl.out; omega))
          obtain ⟨V', hV⟩ : ∃ V, V = preS xs n - preS xs 0 := ⟨_, rfl⟩
          rw [← hV] at HSn
          have h2 : V' < s := by have := Hall.out n hlt; rw [hV, preS_0]; omega
          have h3 : decide (s ≤ V') = false := by simp; omega
          clear hV
          go_wp2_with fail
          refine HSn.out.mono ?_
          rintro e w11 ⟨rfl, F⟩
          replace Tt := Lib.hid (Tt.out.fr0 F)
          replace FW := Lib.hid (FW.out.trans0 F)
          clear F HSn
          go_wp2_with fail
          go_round
          case rel => exact ⟨n + 1, by omega, by go_num, Tt, FW⟩
          case measure => simp [intOf]; omega
        · obtain rfl : n = K := by omega
          go_wp2_with fail
          go_ret
          exact ⟨rfl, FW.out⟩
end Go.Proofs.Ytdihajeccjdhkaa
