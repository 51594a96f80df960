/- Bytes: the sum, numbers in four bytes; both texts of them. -/
import Derived.Test.YtehpikjhjghplaaCom6
import Derived.Test.YtehpikjhjghplaaCom9
import Derived.Laws.BitsLemmas
namespace Go.Proofs.Ytehpikjhjghplaa
open Go.RowKit
attribute [local go_sem ↓] Go.wp_at_zero Go.wp_at_succ

abbrev bv (c : UInt8) : Value := .int .u8 (c.toNat : Int)
abbrev byt (bs : List UInt8) : List Value := bs.map bv
theorem E5 : Elem1 Try.prog 22 5 (.int .u8 0) 1 := ⟨by kernel_rfl, by kernel_rfl, rfl⟩
theorem oneCell_byt (bs : List UInt8) : ∀ u ∈ byt bs, u.oneCell' = true := by
  intro u hu
  obtain ⟨_, _, rfl⟩ := List.mem_map.1 hu
  rfl
/-- Where there is an index: the byte. -/
theorem Rd.bx {w : World} {a : Option Addr} {n : Nat} {bs : List UInt8} (h : Rd w a n (byt bs)) {i : Nat} (hi : i < n) : ∃ b o x, a = some ⟨b, o, none⟩ ∧ bs[i]? = some x ∧ w.cell? ⟨b, o + i, none⟩ = some (bv x) := by
  have hl : bs.length = n := by simpa using h.len
  obtain ⟨b, o, ha, hc⟩ := h.cells (by omega)
  exact ⟨b, o, bs[i], ha, by simp, hc i _ (by rw [List.getElem?_map, List.getElem?_eq_getElem (by omega)]; rfl)⟩
theorem u8_lt (c : UInt8) : c.toNat < 256 := c.toNat_lt
def fnvS (h : Nat) (c : UInt8) : Nat := (h ^^^ c.toNat) * 16777619 % 4294967296
def fnv (bs : List UInt8) : Nat := bs.foldl fnvS 2166136261
theorem fnvS_lt (h : Nat) (c : UInt8) : fnvS h c < 4294967296 := Nat.mod_lt _ (by decide)
theorem fnv_fold_lt : ∀ (bs : List UInt8) (h : Nat), h < 4294967296 → bs.foldl fnvS h < 4294967296
  | [], _, hh => hh
  | c :: bs, h, _ => fnv_fold_lt bs _ (fnvS_lt h c)
theorem fnv_lt (bs : List UInt8) : fnv bs < 4294967296 := fnv_fold_lt bs _ (by decide)
theorem fold_take {α β : Type} {f : β → α → β} {s : β} {l : List α} {k : Nat} {x : α} (h : l[k]? = some x) : (l.take (k + 1)).foldl f s = f ((l.take k).foldl f s) x := by
  rw [List.take_add_one, h, List.foldl_append]; rfl
theorem xor_lt32 {h c : Nat} (h1 : h < 4294967296) (h2 : c < 256) : h ^^^ c < 4294967296 := Nat.xor_lt_two_pow (n := 32) h1 (by omega)
theorem bits_xor (k : IntKind) (j : Nat) (hj : j ≤ k.bits) (hk : ∀ n : Int, 0 ≤ n → n < 2 ^ j → k.wrap n = n) (a b : Nat) (ha : a < 2 ^ j) (hb : b < 2 ^ j) :
    bits .xor k a b = ((a ^^^ b : Nat) : Int) := by
  have hp : 2 ^ j ≤ 2 ^ k.bits := Nat.pow_le_pow_right (by decide) hj
  have ha' : a % 2 ^ k.bits = a := Nat.mod_eq_of_lt (Nat.lt_of_lt_of_le ha hp)
  have hb' : b % 2 ^ k.bits = b := Nat.mod_eq_of_lt (Nat.lt_of_lt_of_le hb hp)
  have cast : ∀ n : Nat, n < 2 ^ j → ((n : Nat) : Int) < 2 ^ j := fun n h => by exact_mod_cast h
  simp only [bits, BitVec.ofInt_natCast, BitVec.toNat_xor, BitVec.toNat_ofNat, ha', hb']
  exact hk _ (Int.natCast_nonneg _) (cast _ (Nat.xor_lt_two_pow ha hb))
theorem xor_u32 {h c : Nat} (h1 : h < 4294967296) (h2 : c < 256) : bits .xor .u32 (h : Int) (c : Int) = ((h ^^^ c : Nat) : Int) :=
  bits_xor .u32 32 (by decide) (fun n h0 h1 => by rw [IntKind.wrap_u32]; omega) h c (by omega) (by omega)
theorem xor_u8 {h c : Nat} (h1 : h < 256) (h2 : c < 256) : bits .xor .u8 (h : Int) (c : Int) = ((h ^^^ c : Nat) : Int) :=
  bits_xor .u8 8 (by decide) (fun n h0 h1 => by rw [IntKind.wrap_u8]; omega) h c (by omega) (by omega)
theorem xor_low {h c : Nat} (h2 : c < 256) : h ^^^ c = h - h % 256 + ((h % 256) ^^^ c) := by
  have e1 : (h ^^^ c) % 256 = (h % 256) ^^^ c := by
    have := Nat.xor_mod_two_pow (a := h) (b := c) (n := 8)
    rw [Nat.mod_eq_of_lt (show c < 2 ^ 8 by omega)] at this
    exact this
  have e2 : (h ^^^ c) / 256 = h / 256 := by
    have := Nat.xor_div_two_pow (a := h) (b := c) (n := 8)
    rw [Nat.div_eq_of_lt (show c < 2 ^ 8 by omega), Nat.xor_zero] at this
    exact this
  have e3 := Nat.div_add_mod (h ^^^ c) 256
  have e4 := Nat.div_add_mod h 256
  rw [e1, e2] at e3
  omega
set_option maxHeartbeats 1000000 in
theorem sum_any (a : Option Addr) (n c : Nat) (bs : List UInt8) (w : World) (hr : Rd w a n (byt bs)) :
    Calls Try.prog 68 #[.slice a n c] w fun e w' => e = .returned (.int .u32 (fnv bs)) ∧ w = w' := by
  have hll : bs.length = n := by simpa using hr.len
  have hmax := hr.max
  have Hll := Lib.hid hll
  clear hll
  go_enter Try.func68, Try.ntmps68
  go_wp2_with fail
  go_loop [3, 5, 8] (fun s3 _ s8 => ∃ (k h : Nat), k ≤ n ∧ s8 = .int .i64 k ∧ s3 = .int .u32 h ∧ Hid (h < 4294967296) ∧ Hid ((bs.take k).foldl fnvS 2166136261 = h)) (fun _ _ s8 => n - (intOf s8).toNat)
  case atStart => exact ⟨0, 2166136261, by omega, rfl, rfl, Lib.hid (by decide), Lib.hid rfl⟩
  case round =>
    obtain ⟨k, h, hk, rfl, rfl, hh, hF⟩ := hrel
    by_cases hlt : k < n
    · obtain ⟨b, o, x, hb, hx, d⟩ := hr.bx hlt
      subst hb
      have hst := fold_take (f := fnvS) (s := 2166136261) hx
      rw [hF.out] at hst
      have Hst := Lib.hid hst
      have x1 := u8_lt x
      obtain ⟨y, hy⟩ : ∃ y, y = x.toNat := ⟨_, rfl⟩
      have Hy := Lib.hid hy
      unfold bv at d
      rw [← hy] at d x1
      have q0 := xor_u32 hh.out x1
      clear hst hx hy
      go_wp2_with fail
      have hF2 : Hid ((bs.take (k + 1)).foldl fnvS 2166136261 = (h ^^^ y) * 16777619 % 4294967296) := Lib.hid (by rw [Hst.out, Hy.out]; rfl)
      have hl2 : Hid ((h ^^^ y) * 16777619 % 4294967296 < 4294967296) := Lib.hid (Nat.mod_lt _ (by decide))
      exact ⟨⟨k + 1, (h ^^^ y) * 16777619 % 4294967296, by omega, by go_num, by congr 1, hl2, hF2⟩, by simp [intOf]; omega⟩
    · obtain rfl : k = n := by omega
      have E : Hid (fnv bs = h) := Lib.hid (by have h1 := hF.out; rw [List.take_of_length_le (by have := Hll.out; omega)] at h1; exact h1)
      go_wp2_with fail
      go_ret
      exact ⟨ret_int (by rw [E.out]), rfl⟩
def bat (bs : List UInt8) (i : Nat) : Nat := (bs.getD i 0).toNat
theorem bat_lt (bs : List UInt8) (i : Nat) : bat bs i < 256 := u8_lt _
/-- The number in the four bytes at an index. -/
def wd (bs : List UInt8) (i : Nat) : Nat := bat bs i + 256 * bat bs (i + 1) + 65536 * bat bs (i + 2) + 16777216 * bat bs (i + 3)
theorem wd_lt (bs : List UInt8) (i : Nat) : wd bs i < 4294967296 := by
  unfold wd
  have := bat_lt bs i
  have := bat_lt bs (i + 1)
  have := bat_lt bs (i + 2)
  have := bat_lt bs (i + 3)
  omega
theorem bat_drop (bs : List UInt8) (k i : Nat) : bat (bs.drop k) i = bat bs (k + i) := by unfold bat; rw [List.getD_eq_getElem?_getD, List.getElem?_drop, ← List.getD_eq_getElem?_getD]
theorem wd_drop (bs : List UInt8) (k i : Nat) : wd (bs.drop k) i = wd bs (k + i) := by unfold wd; simp only [bat_drop, Nat.add_assoc]
/-- A byte as a cell. -/
theorem Rd.bat {w : World} {a : Option Addr} {n : Nat} {bs : List UInt8} (h : Rd w a n (byt bs)) {i : Nat} (hi : i < n) : ∃ b o, a = some ⟨b, o, none⟩ ∧ w.cell? ⟨b, o + i, none⟩ = some (.int .u8 (Ytehpikjhjghplaa.bat bs i)) := by
  obtain ⟨b, o, x, ha, hx, d⟩ := h.bx hi
  refine ⟨b, o, ha, ?_⟩
  rw [d]
  unfold Ytehpikjhjghplaa.bat
  rw [List.getD_eq_getElem?_getD, hx]
  rfl
theorem or_sh {i : Nat} {y x : Nat} (hi : i + 8 ≤ 32) (hy : y < 2 ^ i) (hx : x < 256) : bits .or .i64 (y : Int) ((x : Int) * 2 ^ i) = ((y + x * 2 ^ i : Nat) : Int) := by
  have h1 : x * 2 ^ i < 2 ^ 40 := by
    have : x * 2 ^ i < 256 * 2 ^ i := Nat.mul_lt_mul_of_pos_right hx (Nat.two_pow_pos i)
    have h2 : 2 ^ i ≤ 2 ^ 24 := Nat.pow_le_pow_right (by decide) (by omega)
    omega
  have h3 : y < 2 ^ 40 := Nat.lt_of_lt_of_le hy (Nat.pow_le_pow_right (by decide) (by omega))
  have e : ((x : Int) * 2 ^ i) = ((x * 2 ^ i : Nat) : Int) := by simp
  rw [e, (bits_nat .i64 40 (by decide) (fun n h0 h1 => by rw [IntKind.wrap_i64]; omega) y (x * 2 ^ i) h3 h1).2]
  congr 1
  rw [Nat.or_comm, Nat.mul_comm, ← Nat.two_pow_add_eq_or_of_lt hy x]
  omega
set_option maxHeartbeats 1000000 in
theorem number_any (a : Option Addr) (n c : Nat) (bs : List UInt8) (w : World) (hr : Rd w a n (byt bs)) (hn : 4 ≤ n) :
    Calls Try.prog 77 #[.slice a n c] w fun e w' => e = .returned (.int .i64 (wd bs 0)) ∧ w = w' := by
  obtain ⟨b, o, rfl, d0⟩ := hr.bat (i := 0) (by omega)
  obtain ⟨_, _, e1, d1⟩ := hr.bat (i := 1) (by omega)
  obtain ⟨_, _, e2, d2⟩ := hr.bat (i := 2) (by omega)
  obtain ⟨_, _, e3, d3⟩ := hr.bat (i := 3) (by omega)
  cases e1; cases e2; cases e3
  rw [Nat.add_zero] at d0
  have l0 := bat_lt bs 0
  have l1 := bat_lt bs 1
  have l2 := bat_lt bs 2
  have l3 := bat_lt bs 3
  have E : Hid (wd bs 0 = bat bs 0 + 256 * bat bs 1 + 65536 * bat bs 2 + 16777216 * bat bs 3) := Lib.hid rfl
  obtain ⟨W, hW⟩ : ∃ W, W = wd bs 0 := ⟨_, rfl⟩
  rw [← hW] at E ⊢
  clear hW
  generalize bat bs 0 = x0 at *
  generalize bat bs 1 = x1 at *
  generalize bat bs 2 = x2 at *
  generalize bat bs 3 = x3 at *
  have q0 : Hid (bits .or .i64 0 (x0 : Int) = ((x0 : Nat) : Int)) := Lib.hid (by simpa using or_sh (i := 0) (y := 0) (x := x0) (by omega) (by omega) (by omega))
  have q1 : Hid (bits .or .i64 (x0 : Int) ((x1 : Int) * 256) = ((x0 + x1 * 256 : Nat) : Int)) := Lib.hid (or_sh (i := 8) (y := x0) (x := x1) (by omega) (by omega) (by omega))
  have q2 : Hid (bits .or .i64 ((x0 : Int) + (x1 : Int) * 256) ((x2 : Int) * 65536) = ((x0 + x1 * 256 + x2 * 65536 : Nat) : Int)) := Lib.hid (by simpa using or_sh (i := 16) (y := x0 + x1 * 256) (x := x2) (by omega) (by omega) (by omega))
  have q3 : Hid (bits .or .i64 ((x0 : Int) + (x1 : Int) * 256 + (x2 : Int) * 65536) ((x3 : Int) * 16777216) = (W : Int)) := Lib.hid (by have h := or_sh (i := 24) (y := x0 + x1 * 256 + x2 * 65536) (x := x3) (by omega) (by omega) (by omega); rw [show x0 + x1 * 256 + x2 * 65536 + x3 * 2 ^ 24 = W by have := E.out; omega] at h; simpa using h)
  clear hr
  go_enter Try.func77, Try.ntmps77
  go_wp2_with fail
  go_loop [3, 4, 5] (fun s3 _ s5 => ∃ (k z : Nat), k ≤ 4 ∧ s5 = .int .i64 k ∧ s3 = .int .i64 z ∧ ((k = 0 ∧ z = 0) ∨ (k = 1 ∧ z = x0) ∨ (k = 2 ∧ z = x0 + x1 * 256) ∨ (k = 3 ∧ z = x0 + x1 * 256 + x2 * 65536) ∨ (k = 4 ∧ z = W))) (fun _ _ s5 => 4 - (intOf s5).toNat)
  case atStart => exact ⟨0, 0, by omega, rfl, rfl, by omega⟩
  case round =>
    obtain ⟨k, z, hk, rfl, rfl, h⟩ := hrel
    rcases h with ⟨rfl, e⟩ | ⟨rfl, e⟩ | ⟨rfl, e⟩ | ⟨rfl, e⟩ | ⟨rfl, e⟩
    · subst e
      go_wp2_with fail
      rw [q0.out]
      exact ⟨⟨1, x0, by omega, rfl, rfl, by omega⟩, by simp [intOf]⟩
    · replace e := e.symm; subst e
      go_wp2_with fail
      rw [q1.out]
      exact ⟨⟨2, _, by omega, rfl, rfl, by omega⟩, by simp [intOf]⟩
    · subst e
      go_wp2_with fail
      rw [q2.out]
      exact ⟨⟨3, _, by omega, rfl, rfl, by omega⟩, by simp [intOf]⟩
    · subst e
      go_wp2_with fail
      rw [q3.out]
      exact ⟨⟨4, _, by omega, rfl, rfl, by omega⟩, by simp [intOf]⟩
    · replace e := e.symm; subst e
      go_wp2_with fail
      go_ret
      exact ⟨rfl, rfl⟩
def wordB (n : Nat) : List UInt8 := [UInt8.ofNat n, UInt8.ofNat (n / 256), UInt8.ofNat (n / 65536), UInt8.ofNat (n / 16777216)]
theorem ofNat_val (n : Nat) : ((UInt8.ofNat n).toNat : Int) = (n : Int) % 256 := by rw [UInt8.toNat_ofNat']; omega
set_option maxHeartbeats 1000000 in
theorem put_any (a : Option Addr) (n c B : Nat) (bs : List UInt8) (v : Nat) (w : World) (hO : Own w B 5 a n c (byt bs)) (hB : B ≤ w.heap.size) (hn : n ≤ 100000000) (hv : v < 4294967296) :
    Calls Try.prog 69 #[.slice a n c, .int .i64 v] w fun e w' => ∃ a' c', e = .returned (.slice a' (n + 4) c') ∧ Own w' B 5 a' (n + 4) c' (byt (bs ++ wordB v)) ∧ Fr (onBlk a) w w' ∧ (∀ k, onBlk a' k → onBlk a k ∨ w.heap.size ≤ k) := by
  replace hO := Lib.hid hO
  go_enter Try.func69, Try.ntmps69
  go_wp2_with fail
  go_loopw [0, 1, 5] (fun s0 s1 s5 wr => ∃ (k z cr : Nat) (ar : Option Addr), k ≤ 4 ∧ s5 = .int .i64 k ∧ s1 = .int .i64 z ∧ s0 = .slice ar (n + k) cr ∧ z < 4294967296 ∧ Hid (Own wr B 5 ar (n + k) cr (byt (bs ++ (wordB v).take k))) ∧ Hid (z = v / 256 ^ k) ∧ Hid (Fr (onBlk a) w wr) ∧ Hid (∀ k, onBlk ar k → onBlk a k ∨ w.heap.size ≤ k)) (fun _ _ s5 _ => 4 - (intOf s5).toNat)
  case atStart => exact ⟨0, v, c, a, by omega, rfl, rfl, rfl, hv, by simpa using hO, Lib.hid (by simp), Lib.hid (Fr.refl _ _), Lib.hid (fun k h => .inl h)⟩
  case round =>
    obtain ⟨k, z, cr, ar, hk, rfl, rfl, rfl, hz, hOr, hzv, hF, hat⟩ := hrel
    have hsz := hF.out.size
    by_cases hlt : k < 4
    · have hg : Hid ((wordB v)[k]? = some (UInt8.ofNat z)) := Lib.hid (by
        have e := hzv.out
        subst e
        match k, hlt with
        | 0, _ => simp [wordB]
        | 1, _ => rfl
        | 2, _ => rfl
        | 3, _ => rfl)
      have e1 : Hid (Value.int .u8 ((z : Int) % 256) = bv (UInt8.ofNat z)) := Lib.hid (by unfold bv; rw [ofNat_val])
      have hz2 : Hid (z / 256 = v / 256 ^ (k + 1)) := Lib.hid (by rw [hzv.out, Nat.div_div_eq_div_mul, Nat.pow_succ])
      have z0 : (0 : Int) ≤ (z : Int) := by omega
      go_wp2_with (at_builtin; refine wpAppAt E5 hOr.out (by omega) (by omega) (by omega) (u := .int .u8 ((z : Int) % 256)) rfl rfl rfl ?_; intro a5 c5 w5 own5 fr5 at5)
      have F5 := hF.out.trans fr5 (fun q h1 h2 => (hat.out q h2).elim id (fun h => absurd h1 (by omega)))
      exact ⟨⟨k + 1, z / 256, c5, a5, by omega, by go_num, by congr 1, rfl, by omega, Lib.hid (by
        rw [e1.out] at own5
        rw [List.take_add_one, hg.out]
        show Own w5 B 5 a5 (n + k + 1) c5 _
        simpa [byt, List.append_assoc] using own5), hz2, Lib.hid F5, Lib.hid (fun q hq => (at5 q hq).elim (fun h => hat.out q h) (fun h => .inr (by omega)))⟩, by simp [intOf]; omega⟩
    · obtain rfl : k = 4 := by omega
      go_wp2_with fail
      go_ret
      exact ⟨ar, cr, rfl, by have h := hOr.out; rwa [List.take_of_length_le (by simp [wordB])] at h, hF.out, hat.out⟩
theorem Word_any (v : Nat) (w : World) (hv : v < 4294967296) :
    Calls Try.prog 71 #[.int .i64 v] w fun e w' => ∃ a', e = .returned (.slice a' 4 4) ∧ Own w' w.heap.size 5 a' 4 4 (byt (wordB v)) ∧ Fr F0 w w' := by
  have v0 : (0 : Int) ≤ (v : Int) := by omega
  go_enter Try.func71, Try.ntmps71
  go_wp2_with fail
  go_ret
  have e : #[Value.int .u8 ((v : Int) % 256), .int .u8 ((v : Int) / 256 % 256), .int .u8 ((v : Int) / 65536 % 256), .int .u8 ((v : Int) / 16777216 % 256)] = (byt (wordB v)).toArray := by
    simp only [byt, wordB, List.map_cons, List.map_nil, bv, ofNat_val]
    simp
  rw [e]
  exact ⟨_, rfl, Own.lit _ 4 rfl (Nat.le_refl _) (by omega), (Fr.refl _ _).alloc _⟩
theorem wI {x : Int} (h0 : 0 ≤ x) (h1 : x ≤ 9223372036854775807) : IntKind.i64.wrap x = x := IntWalk.i64_in _ (by omega)
set_option maxHeartbeats 2000000 in
theorem word_any (a : Option Addr) (n c k : Nat) (bs : List UInt8) (w : World) (hr : Rd w a n (byt bs)) (hk : k + 4 ≤ n) :
    Calls Try.prog 73 #[.slice a n c, .int .i64 k] w fun e w' => e = .returned (.int .i64 (wd bs k)) ∧ ∃ q, w' = w.drewN q := by
  have hmax := hr.max
  obtain ⟨b, o, rfl, d0⟩ := hr.bat (i := k) (by omega)
  obtain ⟨_, _, e1, d1⟩ := hr.bat (i := k + 1) (by omega)
  obtain ⟨_, _, e2, d2⟩ := hr.bat (i := k + 2) (by omega)
  obtain ⟨_, _, e3, d3⟩ := hr.bat (i := k + 3) (by omega)
  cases e1; cases e2; cases e3
  have l0 := bat_lt bs k
  have l1 := bat_lt bs (k + 1)
  have l2 := bat_lt bs (k + 2)
  have l3 := bat_lt bs (k + 3)
  have E : Hid (wd bs k = bat bs k + 256 * bat bs (k + 1) + 65536 * bat bs (k + 2) + 16777216 * bat bs (k + 3)) := Lib.hid rfl
  obtain ⟨W, hW⟩ : ∃ W, W = wd bs k := ⟨_, rfl⟩
  rw [← hW] at E ⊢
  clear hW
  generalize bat bs k = x0 at *
  generalize bat bs (k + 1) = x1 at *
  generalize bat bs (k + 2) = x2 at *
  generalize bat bs (k + 3) = x3 at *
  have v1 : IntKind.i64.wrap (256 * (x1 : Int)) = 256 * (x1 : Int) := wI (by omega) (by omega)
  have v2 : IntKind.i64.wrap (65536 * (x2 : Int)) = 65536 * (x2 : Int) := wI (by omega) (by omega)
  have v3 : IntKind.i64.wrap (16777216 * (x3 : Int)) = 16777216 * (x3 : Int) := wI (by omega) (by omega)
  have s1 : IntKind.i64.wrap ((x0 : Int) + 256 * (x1 : Int)) = (x0 : Int) + 256 * (x1 : Int) := wI (by omega) (by omega)
  have s2 : IntKind.i64.wrap ((x0 : Int) + 256 * (x1 : Int) + 65536 * (x2 : Int)) = (x0 : Int) + 256 * (x1 : Int) + 65536 * (x2 : Int) := wI (by omega) (by omega)
  have s3 : IntKind.i64.wrap ((x0 : Int) + 256 * (x1 : Int) + 65536 * (x2 : Int) + 16777216 * (x3 : Int)) = (x0 : Int) + 256 * (x1 : Int) + 65536 * (x2 : Int) + 16777216 * (x3 : Int) := wI (by omega) (by omega)
  have c0 : IntKind.i64.wrap (x0 : Int) = (x0 : Int) := wI (by omega) (by omega)
  have c1 : IntKind.i64.wrap (x1 : Int) = (x1 : Int) := wI (by omega) (by omega)
  have c2 : IntKind.i64.wrap (x2 : Int) = (x2 : Int) := wI (by omega) (by omega)
  have c3 : IntKind.i64.wrap (x3 : Int) = (x3 : Int) := wI (by omega) (by omega)
  have i0 : (0 : Int) ≤ (k : Int) := by omega
  have i1 : (0 : Int) ≤ (k : Int) + 1 := by omega
  have i2 : (0 : Int) ≤ (k : Int) + 2 := by omega
  have i3 : (0 : Int) ≤ (k : Int) + 3 := by omega
  have j0 : (k : Int) < (n : Int) := by omega
  have j1 : (k : Int) + 1 < (n : Int) := by omega
  have j2 : (k : Int) + 2 < (n : Int) := by omega
  have j3 : (k : Int) + 3 < (n : Int) := by omega
  have t1 : ((k : Int) + 1).toNat = k + 1 := by omega
  have t2 : ((k : Int) + 2).toNat = k + 2 := by omega
  have t3 : ((k : Int) + 3).toNat = k + 3 := by omega
  have w1 : IntKind.i64.wrap ((k : Int) + 1) = (k : Int) + 1 := wI (by omega) (by omega)
  have w2 : IntKind.i64.wrap ((k : Int) + 2) = (k : Int) + 2 := wI (by omega) (by omega)
  have w3 : IntKind.i64.wrap ((k : Int) + 3) = (k : Int) + 3 := wI (by omega) (by omega)
  have hres : Hid ((x0 : Int) + 256 * (x1 : Int) + 65536 * (x2 : Int) + 16777216 * (x3 : Int) = (W : Int)) := Lib.hid (by rw [E.out]; omega)
  clear hr
  go_enter Try.func73, Try.ntmps73
  go_wp2_with fail
  go_quiet (fail)
  all_goals
    try clear v1 v2 v3 s1 s2 s3 c0 c1 c2 c3 t1 t2 t3 w1 w2 w3
    go_wp2_with fail
    go_ret
    exact ⟨ret_int hres.out, _, rfl⟩
set_option maxHeartbeats 1000000 in
theorem refSum_any (a : Option Addr) (n c : Nat) (bs : List UInt8) (w : World) (hr : Rd w a n (byt bs)) :
    Calls Try.prog 72 #[.slice a n c] w fun e w' => e = .returned (.int .i64 (fnv bs)) ∧ w = w' := by
  have hll : bs.length = n := by simpa using hr.len
  have hmax := hr.max
  have Hll := Lib.hid hll
  clear hll
  go_enter Try.func72, Try.ntmps72
  go_wp2_with fail
  go_loop [3, 4, 5] (fun s3 s4 _ => ∃ (k h : Nat), k ≤ n ∧ s4 = .int .i64 k ∧ s3 = .int .i64 h ∧ h < 4294967296 ∧ Hid ((bs.take k).foldl fnvS 2166136261 = h)) (fun _ s4 _ => n - (intOf s4).toNat)
  case atStart => exact ⟨0, 2166136261, by omega, rfl, rfl, by decide, Lib.hid rfl⟩
  case round =>
    obtain ⟨k, h, hk, rfl, rfl, hh, hF⟩ := hrel
    by_cases hlt : k < n
    · obtain ⟨b, o, x, hb, hx, d⟩ := hr.bx hlt
      subst hb
      have hst := fold_take (f := fnvS) (s := 2166136261) hx
      rw [hF.out] at hst
      have Hst := Lib.hid hst
      have x1 := u8_lt x
      obtain ⟨y, hy⟩ : ∃ y, y = x.toNat := ⟨_, rfl⟩
      have Hy := Lib.hid hy
      unfold bv at d
      rw [← hy] at d x1
      have q0 := xor_u8 (h := h % 256) (c := y) (by omega) x1
      rw [show ((h % 256 : Nat) : Int) = (h : Int) % 256 by omega] at q0
      have q1 : (h % 256) ^^^ y < 256 := Nat.xor_lt_two_pow (n := 8) (by omega) (by omega)
      have q2 : Hid (h ^^^ y = h - h % 256 + ((h % 256) ^^^ y)) := Lib.hid (xor_low x1)
      obtain ⟨t, ht⟩ : ∃ t, t = (h % 256) ^^^ y := ⟨_, rfl⟩
      rw [← ht] at q0 q1 q2
      have q3 : Hid ((((h : Int) - (h : Int) % 256 + (t : Int)) * 16777619 % 4294967296) = (((h ^^^ y) * 16777619 % 4294967296 : Nat) : Int)) := Lib.hid (by
        have e := q2.out
        have e2 : ((h ^^^ y : Nat) : Int) = (h : Int) - (h : Int) % 256 + (t : Int) := by omega
        rw [← e2]; omega)
      clear hst hx hy ht
      go_wp2_with fail
      rw [q3.out]
      exact ⟨⟨k + 1, (h ^^^ y) * 16777619 % 4294967296, by omega, by go_num, rfl, Nat.mod_lt _ (by decide), Lib.hid (by rw [Hst.out, Hy.out]; rfl)⟩, by simp [intOf]; omega⟩
    · obtain rfl : k = n := by omega
      have E : Hid (fnv bs = h) := Lib.hid (by have h1 := hF.out; rw [List.take_of_length_le (by have := Hll.out; omega)] at h1; exact h1)
      go_wp2_with fail
      go_ret
      exact ⟨ret_int (by rw [E.out]), rfl⟩
end Go.Proofs.Ytehpikjhjghplaa
