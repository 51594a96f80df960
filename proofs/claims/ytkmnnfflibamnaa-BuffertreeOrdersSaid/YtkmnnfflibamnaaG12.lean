/- Buffer trees: all of the reference. -/
import Derived.Test.YtkmnnfflibamnaaG911
namespace Go.Proofs.Ytkmnnfflibamnaa
open Go.RowKit
attribute [local go_sem ↓] Go.wp_at_zero Go.wp_at_succ
theorem foldI_len (m : List En) : ∀ l : List En, (m.foldl ins l).length ≤ l.length + m.length := by
  induction m with
  | nil => intro l; simp
  | cons x m ih => intro l; have := ih (ins l x); have := ins_len (l := l) x; rw [List.foldl_cons, List.length_cons]; omega
theorem lvl_tot (rs : Rs) (i : Nat) : (lvl rs i).flatten.length ≤ totR rs := by
  induction rs with
  | nil => exact Nat.le_refl _
  | cons x rs ih =>
    have e : totR (x :: rs) = x.2.length + totR rs := by unfold totR; rw [List.map_cons, List.sum_cons]
    have h1 : lvl (x :: rs) i = lvl [x] i ++ lvl rs i := lvl_app [x] rs i
    obtain ⟨k, l⟩ := x
    rw [h1, List.flatten_append, List.length_append, lvl_one, e]
    split
    · rw [List.flatten_cons, List.flatten_nil, List.append_nil]
      show l.length + _ ≤ l.length + _; omega
    · rw [List.flatten_nil]
      show 0 + _ ≤ l.length + _; omega
theorem totR_take (rv : List RunV) (i : Nat) : totR (rsO (rv.take i)) ≤ totR (rsO rv) := by
  have e : totR (rsO rv) = totR (rsO (rv.take i)) + totR (rsO (rv.drop i)) := by
    rw [← totR_app]; unfold rsO; rw [← List.map_append, List.take_append_drop]
  omega
theorem totR_run {rv : List RunV} {r : RunV} (h : r ∈ rv) : r.l.length ≤ totR (rsO rv) := by
  obtain ⟨i, hi⟩ := List.getElem?_of_mem h
  have h1 := totR_take rv (i + 1)
  rw [rsO_take _ _ hi, totR_app, totR_one] at h1
  omega
/-- The entries of the c highest levels. -/
def Dn (rs : Rs) (N : Nat) : Nat → List En
  | 0 => []
  | c + 1 => (lvl rs (N - 1 - c)).flatten.foldl ins (Dn rs N c)
theorem Dn_len (rs : Rs) (N : Nat) : ∀ c, (Dn rs N c).length ≤ c * totR rs
  | 0 => Nat.zero_le _
  | c + 1 => by
    have h1 := Dn_len rs N c
    have h2 := foldI_len (lvl rs (N - 1 - c)).flatten (Dn rs N c)
    have h3 := lvl_tot rs (N - 1 - c)
    rw [Nat.succ_mul]
    show (List.foldl ins _ _).length ≤ _
    omega
theorem Dn_pt (rs : Rs) (N : Nat) : ∀ c, c ≤ N → Dn rs N c = pt (((List.range N).reverse.take c).flatMap (lvl rs))
  | 0, _ => rfl
  | c + 1, h => by
    have ih := Dn_pt rs N c (by omega)
    have e : (List.range N).reverse[c]? = some (N - 1 - c) := by
      rw [List.getElem?_reverse (by rw [List.length_range]; omega), List.length_range, List.getElem?_range (by omega)]
    have e2 : (List.range N).reverse.take (c + 1) = (List.range N).reverse.take c ++ [N - 1 - c] := by rw [List.take_add_one, e]; rfl
    rw [e2, List.flatMap_append]
    show (lvl rs (N - 1 - c)).flatten.foldl ins (Dn rs N c) = _
    rw [ih]
    unfold pt
    rw [List.flatten_append, List.foldl_append]
    simp
theorem Dn_all (rs : Rs) : Dn rs (high rs + 1).toNat (high rs + 1).toNat = pt (runsR rs) := by
  rw [Dn_pt rs _ _ (Nat.le_refl _), List.take_of_length_le (by rw [List.length_reverse, List.length_range]; exact Nat.le_refl _)]
  rfl
/-- What lies in memory while all gathers. -/
structure AlS (w wr : World) (vs : List Value) (a : Option Addr) (c : Nat) (O : List En) : Prop where
  own : OwnZ wr w.heap.size 58 3 a O.length c (ents O)
  bx : Blk wr w.heap.size 51 vs
  fr : Fr F0 w wr
theorem AlS.put {w wr w' : World} {vs : List Value} {a : Option Addr} {c : Nat} {O O' : List En} {e : Ending} (h : AlS w wr vs a c O) (h2 : EnR wr O' e w') : ∃ a' c', e = .returned (.slice a' O'.length c') ∧ AlS w w' vs a' c' O' ∧ Fr F0 wr w' := by
  obtain ⟨a', c', he, ho, hf⟩ := h2
  exact ⟨a', c', he, ⟨ho.mono h.fr.size, h.bx.fr hf id, h.fr.trans0 hf⟩, hf⟩
set_option maxRecDepth 100000 in
set_option maxHeartbeats 4000000 in
theorem all_any {P : Nat → Prop} {w : World} {ra : Option Addr} {rc : Nat} {rv : List RunV} (B M bl : Nat) (ba : Option Addr) (bn bc : Nat) (h : RefS w P ra rc rv) (hn : rv.length ≤ 100000) (hh : high (rsO rv) ≤ 1000) (ht : totR (rsO rv) ≤ 1000) :
    Calls Try.prog 52 #[rtv B M bl ba bn bc ra rv.length rc] w (EnR w (pt (runsR (rsO rv)))) := by
  have HB0 := Blk.new w 51 [.int .i64 (B : Int), .int .i64 (M : Int), .int .i64 (bl : Int), .slice ba bn bc, .slice ra rv.length rc]
  have x0 := HB0.cell (i := 0) rfl
  have x1 := HB0.cell (i := 1) rfl
  have x2 := HB0.cell (i := 2) rfl
  have x3 := HB0.cell (i := 3) rfl
  have x4 := HB0.cell (i := 4) rfl
  have F1 := (Fr.refl F0 w).alloc (.cells #[.int .i64 (B : Int), .int .i64 (M : Int), .int .i64 (bl : Int), .slice ba bn bc, .slice ra rv.length rc] 51)
  have HX := Lib.hid (And.intro HB0 F1)
  have HH : Hid (∀ W, Fr F0 w W → _) := Lib.hid (fun W F => highest_any (w := W) B M bl ba bn bc (h.fr0 F) hn)
  have HR : Hid (∀ W, Fr F0 w W → RefS W P ra rc rv) := Lib.hid (fun W F => h.fr0 F)
  clear h HB0 F1
  obtain ⟨rs, hrs⟩ : ∃ rs, rs = rsO rv := ⟨_, rfl⟩
  rw [← hrs] at HH hh ht ⊢
  obtain ⟨z, hz⟩ : ∃ z, z = high rs := ⟨_, rfl⟩
  rw [← hz] at HH hh
  have hz1 : -1 ≤ z := by rw [hz]; exact (high_spec rs).2.2
  obtain ⟨N, hN0⟩ : ∃ N : Nat, N = (high rs + 1).toNat := ⟨_, rfl⟩
  have hNz : (N : Int) = z + 1 := by omega
  have HD := Lib.hid (Dn_all rs)
  rw [← hN0] at HD
  have Hrs := Lib.hid hrs
  have Ht := Lib.hid ht
  obtain ⟨n, hN⟩ : ∃ n, n = rv.length := ⟨_, rfl⟩
  unfold rtv at HH ⊢
  rw [← hN] at x0 x1 x2 x3 x4 HH HX hn ⊢
  have Hl := Lib.hid hN
  clear hN hz hrs hN0 ht
  have hz2 : z = (N : Int) - 1 := by omega
  clear hNz
  subst hz2
  clear hz1
  replace hh : N ≤ 1001 := by omega
  go_enter Try.func52, Try.ntmps52
  go_wp2_with (go_at_call 78; refine (HH.out _ HX.out.2).mono ?_; rintro e w2 ⟨rfl, F2⟩; have X2 : Hid (AlS w w2 _ none 0 []) := Lib.hid ⟨OwnZ.nil _ _ _ _, HX.out.1.fr F2 id, HX.out.2.trans0 F2⟩; clear F2)
  clear HH HX x0 x1 x2 x3 x4
  go_loopw [3, 4, 5, 6] (fun s3 s4 s5 s6 wr => ∃ (c k : Nat) (a' : Option Addr) (c' : Nat), c ≤ N ∧ s4 = .int .i64 ((N : Int) - 1 - (c : Int)) ∧ s3 = .slice a' k c' ∧ Hid (k = (Dn rs N c).length ∧ AlS w wr [.int .i64 (B : Int), .int .i64 (M : Int), .int .i64 (bl : Int), .slice ba bn bc, .slice ra n rc] a' c' (Dn rs N c))) (fun _ s4 _ _ _ => (intOf s4 + 1).toNat)
  case atStart => exact ⟨0, 0, none, 0, Nat.zero_le _, by go_num, rfl, Lib.hid ⟨rfl, X2.out⟩⟩
  case round =>
    obtain ⟨c, k, a', c', hc, rfl, rfl, H⟩ := hrel
    have y4 := H.out.2.bx.cell (i := 4) rfl
    by_cases hlt : c < N
    · have hlt' : 0 ≤ (N : Int) - 1 - (c : Int) := by omega
      obtain ⟨lev, hlev⟩ : ∃ lev, lev = N - 1 - c := ⟨_, rfl⟩
      have hlev2 : (N : Int) - 1 - (c : Int) = (lev : Int) := by omega
      have Hlev := Lib.hid hlev
      rw [hlev2] at hlt' ⊢
      clear hlev
      go_wp2_with fail
      go_loopw [3, 5, 6] (fun s3 s5 s6 wr => ∃ (i k : Nat) (a' : Option Addr) (c' : Nat), i ≤ n ∧ s5 = .int .i64 (i : Int) ∧ s3 = .slice a' k c' ∧ Hid (k = ((lvl (rsO (rv.take i)) lev).flatten.foldl ins (Dn rs N c)).length ∧ AlS w wr [.int .i64 (B : Int), .int .i64 (M : Int), .int .i64 (bl : Int), .slice ba bn bc, .slice ra n rc] a' c' ((lvl (rsO (rv.take i)) lev).flatten.foldl ins (Dn rs N c)))) (fun _ s5 _ _ => n - (intOf s5).toNat)
      case atStart => exact ⟨0, k, a', c', Nat.zero_le _, rfl, rfl, Lib.hid H.out⟩
      case round =>
        obtain ⟨i, k, a', c', hi, rfl, rfl, H⟩ := hrel
        clear y4
        have y4 := H.out.2.bx.cell (i := 4) rfl
        by_cases hli : i < n
        · have hli' : (i : Int) < (n : Int) := by omega
          obtain ⟨r, hr⟩ : ∃ r, rv[i]? = some r := ⟨_, List.getElem?_eq_getElem (by have := Hl.out; omega)⟩
          obtain ⟨b, o, rfl, d0, d1, hrd, hrc⟩ := (HR.out _ H.out.2.fr).at hr
          have HRD := Lib.hid hrd
          have hs : lvl (rsO (rv.take (i + 1))) lev = lvl (rsO (rv.take i)) lev ++ if lev = r.lv then [r.l] else [] := by
            rw [rsO_take _ _ hr, lvl_app, lvl_one]
          by_cases hk : lev = r.lv
          · rw [if_pos hk] at hs
            have hb : ((r.lv : Int) == (lev : Int)) = true := by simp [hk]
            have hb2 : (r.lv == lev) = true := by simp [hk]
            have hlen : ((lvl (rsO (rv.take i)) lev).flatten.foldl ins (Dn rs N c)).length + r.l.length ≤ 3000000 := by
              have h1 := foldI_len (lvl (rsO (rv.take i)) lev).flatten (Dn rs N c)
              have h2 := lvl_tot (rsO (rv.take i)) lev
              have h3 := totR_take rv i
              have h4 := Dn_len rs N c
              have h5 := totR_run (List.mem_of_getElem? hr)
              rw [← Hrs.out] at h3 h5
              have h6 := Ht.out
              have h7 : c * totR rs ≤ 1001 * 1000 := Nat.mul_le_mul (by omega) h6
              omega
            have HLn := Lib.hid hlen
            have hrl : r.l.length ≤ 3000000 := by omega
            have HS := Lib.hid hs
            obtain ⟨O, hO⟩ : ∃ O, O = (lvl (rsO (rv.take i)) lev).flatten.foldl ins (Dn rs N c) := ⟨_, rfl⟩
            have hfin : (lvl (rsO (rv.take (i + 1))) lev).flatten.foldl ins (Dn rs N c) = r.l.foldl ins O := by
              rw [hs, List.flatten_append, List.foldl_append, hO]; simp
            rw [← hO] at H HLn
            have HFin := Lib.hid hfin
            obtain ⟨m, hm⟩ : ∃ m, m = r.l.length := ⟨_, rfl⟩
            rw [← hm] at d1 hrl HLn HRD
            have Hm := Lib.hid hm
            clear hs hr hk hlen hrd hrc hO hfin hm
            go_wp2_with fail
            go_loopw [3, 6] (fun s3 s6 wr => ∃ (j k : Nat) (a' : Option Addr) (c' : Nat), j ≤ m ∧ s6 = .int .i64 (j : Int) ∧ s3 = .slice a' k c' ∧ Hid (k = ((r.l.take j).foldl ins O).length ∧ AlS w wr [.int .i64 (B : Int), .int .i64 (M : Int), .int .i64 (bl : Int), .slice ba bn bc, .slice (some ⟨b, o, none⟩) n rc] a' c' ((r.l.take j).foldl ins O) ∧ wr.cell? ⟨b, o + i * 2 + 1, none⟩ = some (.slice r.a m r.c) ∧ RdZ wr 3 r.a m (ents r.l))) (fun _ s6 _ => m - (intOf s6).toNat)
            case atStart => exact ⟨0, k, a', c', Nat.zero_le _, rfl, rfl, Lib.hid ⟨H.out.1, H.out.2, d1, HRD.out⟩⟩
            case round =>
              obtain ⟨j, k, a', c', hj, rfl, rfl, H⟩ := hrel
              clear y4 d0 d1
              have y4 := H.out.2.1.bx.cell (i := 4) rfl
              have d1 := H.out.2.2.1
              by_cases hlj : j < m
              · have hlj' : (j : Int) < (m : Int) := by omega
                obtain ⟨x, hx⟩ : ∃ x, r.l[j]? = some x := ⟨_, List.getElem?_eq_getElem (by have := Hm.out; omega)⟩
                obtain ⟨b2, o2, hra, e0, e1, e2⟩ := H.out.2.2.2.ent hx
                have hfin : (r.l.take (j + 1)).foldl ins O = ins ((r.l.take j).foldl ins O) x := by
                  rw [List.take_add_one, hx, List.foldl_append]; rfl
                have hk9 : k ≤ 100000000 := by
                  have h1 := foldI_len (r.l.take j) O
                  rw [List.length_take] at h1
                  have := H.out.1
                  have := HLn.out
                  omega
                have HP := Lib.hid (put_any x (by have := H.out.2.1.own.rd; rw [← H.out.1] at this; exact this) (by have := OwnZ.cap H.out.2.1.own; rw [← H.out.1] at this; exact this) hk9)
                have HFn := Lib.hid hfin
                rw [hra] at d1
                obtain ⟨x1, x2, x3⟩ := x
                dsimp only at e0 e1 e2 HP
                clear hx hfin
                go_wp2_with (go_at_call 53; refine HP.out.mono ?_; intro e w3 hE; obtain ⟨a3, c3, rfl, hA⟩ := H.out.2.1.put hE; have HA3 := Lib.hid hA; clear hA hE)
                go_roundw
                case rel => exact ⟨j + 1, _, a3, c3, by omega, by go_num, rfl, Lib.hid ⟨by rw [HFn.out], by rw [HFn.out]; exact HA3.out.1, HA3.out.2.cell H.out.2.2.1 id, H.out.2.2.2.fr0 HA3.out.2⟩⟩
                case measure => simp [intOf]; omega
              · obtain rfl : m = j := by omega
                have H9 := H.out
                rw [List.take_of_length_le (by rw [Hm.out]; exact Nat.le_refl _), ← HFin.out] at H9
                have H10 := Lib.hid H9
                clear H9
                go_wp2_with fail
                go_roundw
                case rel => exact ⟨i + 1, _, a', c', by omega, by go_num, rfl, Lib.hid ⟨H10.out.1, H10.out.2.1⟩⟩
                case measure => simp [intOf]; omega
          · rw [if_neg hk] at hs
            have hb : ((r.lv : Int) == (lev : Int)) = false := by simp; omega
            have hb2 : (r.lv == lev) = false := by simp; omega
            rw [List.append_nil] at hs
            have H9 := H.out
            rw [← hs] at H9
            have H10 := Lib.hid H9
            clear H9 hs hr hrd hrc
            go_wp2_with fail
            go_roundw
            case rel => exact ⟨i + 1, k, a', c', by omega, by go_num, rfl, Lib.hid H10.out⟩
            case measure => simp [intOf]; omega
        · obtain rfl : n = i := by omega
          have H9 := H.out
          rw [List.take_of_length_le (by rw [Hl.out]; exact Nat.le_refl _), ← Hrs.out, Hlev.out] at H9
          have H10 : Hid (k = (Dn rs N (c + 1)).length ∧ AlS w _ _ a' c' (Dn rs N (c + 1))) := Lib.hid H9
          clear H9
          have HLe := Lib.hid hlev2
          go_wp2_with fail
          go_roundw
          case rel => exact ⟨c + 1, k, a', c', by omega, congrArg (fun x : Int => Value.int .i64 x) (by have := HLe.out; omega), rfl, Lib.hid H10.out⟩
          case measure => simp [intOf]
    · obtain rfl : N = c := by omega
      have hlt' : ¬ 0 ≤ (N : Int) - 1 - (N : Int) := by omega
      go_wp2_with fail
      go_ret
      obtain ⟨h1, h2⟩ := H.out
      subst h1
      rw [HD.out] at h2 ⊢
      exact ⟨a', c', rfl, h2.own, h2.fr⟩
end Go.Proofs.Ytkmnnfflibamnaa
