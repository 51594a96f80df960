/- The elements of a tree, one after the other. -/
import Derived.Test.YtdihajeccjdhkaaA8
namespace Go.Proofs.Ytdihajeccjdhkaa
open Go.RowKit
attribute [local go_sem ↓] Go.wp_at_zero Go.wp_at_succ
/-- A tree whose nodes lie below a bound. -/
def TMB (w : World) (B : Nat) : Tr → Option Addr → Prop
  | .nil, p => p = none
  | .nd l x r, p => ∃ b pl pr, p = some ⟨b, 0, none⟩ ∧ b < B ∧ NdC w b (ndV l x r pl pr) ∧ TMB w B l pl ∧ TMB w B r pr
theorem TM.bd {w : World} : ∀ {t : Tr} {p : Option Addr}, TM w t p → TMB w w.heap.size t p
  | .nil, _, h => h
  | .nd _ _ _, _, ⟨b, pl, pr, h1, h2, h3, h4⟩ => ⟨b, pl, pr, h1, World.block_lt_of_cell? _ _ (h2.cell (i := 2) rfl), h2, TM.bd h3, TM.bd h4⟩
theorem TMB.fr {S : Nat → Prop} {w w' : World} {B : Nat} (f : Fr S w w') (hS : ∀ j, j < B → ¬ S j) : ∀ {t : Tr} {p : Option Addr}, TMB w B t p → TMB w' B t p
  | .nil, _, h => h
  | .nd _ _ _, _, ⟨b, pl, pr, h1, h0, h2, h3, h4⟩ => ⟨b, pl, pr, h1, h0, h2.fr f (hS b h0), TMB.fr f hS h3, TMB.fr f hS h4⟩
/-- What walk knows. -/
structure LS (B : Nat) (w : World) (a : Option Addr) (n c : Nat) (xs : List Int) : Prop where
  fn : w.cell? ⟨B + 1, 0, none⟩ = some (.func (.func 44) #[] #[.pointer (some ⟨B + 1, 0, none⟩), .pointer (some ⟨B, 0, none⟩)])
  out : w.cell? ⟨B, 0, none⟩ = some (.slice a n c)
  free : w.frozen? ⟨B, 0, none⟩ = false
  own : Own w (B + 2) 3 a n c (ints xs)
  sz : B + 2 ≤ w.heap.size
theorem LS.fr0 {B : Nat} {w w' : World} {a : Option Addr} {n c : Nat} {xs : List Int} (f : Fr F0 w w') (h : LS B w a n c xs) : LS B w' a n c xs :=
  ⟨f.cell h.fn id, f.cell h.out id, (f.frozen (World.block_lt_of_cell? _ _ h.out) id).trans h.free, h.own.fr0 f, Nat.le_trans h.sz f.size⟩
abbrev LF (B : Nat) : Nat → Prop := fun j => j = B ∨ B + 2 ≤ j
def LPost (B : Nat) (n : Nat) (xs : List Int) (t : Tr) (w : World) (e : Ending) (w' : World) : Prop :=
  ∃ a' n' c', n' = n + t.len ∧ e = .returned (.tuple #[]) ∧ LS B w' a' n' c' (xs ++ t.list) ∧ Fr (LF B) w w'
theorem LPost.up {B n : Nat} {xs : List Int} {t : Tr} {w W : World} {f : FuncId} {args : Array Value} (g : Fr F0 w W) (h : Calls Try.prog f args W (LPost B n xs t W)) : Calls Try.prog f args W (LPost B n xs t w) :=
  h.mono fun _ _ ⟨a, m, c, h1, h2, h3, h4⟩ => ⟨a, m, c, h1, h2, h3, (Fr.trans (S := LF B) (g.mono (fun _ _ h => h.elim)) h4 (fun _ _ h => h))⟩
set_option maxHeartbeats 8000000 in
theorem List1_any (B : Nat) : ∀ (t : Tr) (p : Option Addr) (w : World) (a : Option Addr) (n c : Nat) (xs : List Int), TMB w B t p → LS B w a n c xs → n + t.len ≤ 100000 →
    Calls Try.prog 44 #[.pointer p, .pointer (some ⟨B + 1, 0, none⟩), .pointer (some ⟨B, 0, none⟩)] w (LPost B n xs t w)
  | .nil, p, w, a, n, c, xs, hT, hL, hn => by
    obtain rfl : p = none := hT
    have HL := Lib.hid hL
    clear hL hn
    go_enter Try.func44, Try.ntmps44
    go_wp2_with fail
    go_end0
    exact ⟨a, n, c, by rw [Tr.len_nil]; rfl, rfl, by simpa [Tr.list] using HL.out, Fr.refl _ _⟩
  | .nd l x r, p, w, a, n, c, xs, hT, hL, hn => by
    obtain ⟨b, pl, pr, rfl, hb, hc, hl, hr⟩ := hT
    rw [Tr.len_nd] at hn
    have IHl := Lib.hid (fun (W : World) (f : Fr F0 w W) => LPost.up f (List1_any B l pl W a n c xs (hl.fr f (fun _ _ h => h)) (hL.fr0 f) (by omega)))
    have Hr := Lib.hid hr
    have z0 : w.cell? ⟨b, 0, none⟩ = some (.pointer pl) := hc.cell (i := 0) rfl
    have z1 : w.cell? ⟨b, 1, none⟩ = some (.pointer pr) := hc.cell (i := 1) rfl
    have z2 : w.cell? ⟨b, 2, none⟩ = some (.int .i64 x) := hc.cell (i := 2) rfl
    have zf := hL.fn
    have Hb := Lib.hid hb
    have hLF : Hid (∀ j, j < B → ¬ LF B j) := Lib.hid (fun j h h2 => by rcases h2 with h2 | h2 <;> omega)
    have nb1 : Hid (¬ LF B (B + 1)) := Lib.hid (fun h => by rcases h with h | h <;> omega)
    obtain ⟨L, hLn⟩ : ∃ L, L = l.len := ⟨_, rfl⟩
    rw [← hLn] at hn
    have HLn := Lib.hid hLn
    clear hc hl hr hL hb hLn
    go_enter Try.func44, Try.ntmps44
    go_wp2_with fail
    have Hh : w.drew.cell? ⟨b, 0, none⟩ = some (.pointer pl) ∧ w.drew.cell? ⟨B + 1, 0, none⟩ = some (.func (.func 44) #[] #[.pointer (some ⟨B + 1, 0, none⟩), .pointer (some ⟨B, 0, none⟩)]) := ⟨z0, zf⟩
    go_region_held3 (fun w' => w'.cell? ⟨b, 0, none⟩ = some (.pointer pl) ∧ w'.cell? ⟨B + 1, 0, none⟩ = some (.func (.func 44) #[] #[.pointer (some ⟨B + 1, 0, none⟩), .pointer (some ⟨B, 0, none⟩)])) (go_keep)
      (first | (go_at_call 44; (with_reducible refine (IHl.out _ (by repeat (first | exact Fr.refl _ _ | refine Fr.drew ?_))).mono ?_); rintro e w1 ⟨a1, n1, c1, hn1, rfl, L1, F1⟩; have k0 := F1.cell z0 (hLF.out b Hb.out); have kf := L1.fn) | fail)
    all_goals
      have L1h := Lib.hid L1
      have F1h := Lib.hid F1
      have y1 := F1.cell z1 (hLF.out b Hb.out)
      have y2 := F1.cell z2 (hLF.out b Hb.out)
      have yo := L1.out
      obtain rfl : n1 = n + L := by rw [hn1, HLn.out]
      clear L1 F1 k0 kf Hh z0 z1 z2 zf hn1 IHl
      go_wp2_with fail
      have hHeld : (fun w' : World => w'.cell? ⟨B, 0, none⟩ = some (.slice a1 (n + L) c1) ∧ w'.cell? ⟨b, 2, none⟩ = some (.int .i64 x)) w1.drew := ⟨yo, y2⟩
      refine wp_region_last 7 (fun w' : World => w'.cell? ⟨B, 0, none⟩ = some (.slice a1 (n + L) c1) ∧ w'.cell? ⟨b, 2, none⟩ = some (.int .i64 x)) (by kernel_rfl) ?_
      refine anyP_take 0 (v := ?_) rfl rfl (by kernel_rfl) (fun _ _ _ h => h) (Or.inl ⟨by rfl, ?_⟩) hHeld ?_
      rotate_left 1
      · (intro w0 hSw; (try dsimp only at hSw); go_simp; (try (with_reducible rfl)))
      try simp only [Act.put, List.setIfInBounds_toArray]
      refine anyP_take 1 (v := ?_) rfl rfl (by kernel_rfl) (fun _ _ _ h => h) (Or.inl ⟨by rfl, ?_⟩) hHeld ?_
      rotate_left 1
      · (intro w0 hSw; (try dsimp only at hSw); go_simp; (try (with_reducible rfl)))
      try simp only [Act.put]
      refine anyP_take 2 (v := ?_) rfl rfl (by kernel_rfl) (fun _ _ _ h => h) (Or.inl ⟨by rfl, ?_⟩) hHeld ?_
      rotate_left 1
      · (intro w0 hSw; (try dsimp only at hSw); go_simp; (try (with_reducible rfl)))
      try simp only [Act.put]
      refine anyP_take 3 (v := ?_) rfl rfl (by kernel_rfl) (fun _ _ _ h => h) (Or.inl ⟨by rfl, ?_⟩) hHeld ?_
      rotate_left 1
      · (intro w0 hSw; (try dsimp only at hSw); go_simp; (try (with_reducible rfl)))
      try simp only [Act.put]
      refine anyP_take 4 (v := ?_) rfl rfl (by kernel_rfl) (fun _ _ _ h => h) (Or.inl ⟨by rfl, ?_⟩) hHeld ?_
      rotate_left 1
      · (intro w0 hSw; (try dsimp only at hSw); go_simp; (try (with_reducible rfl)))
      try simp only [Act.put]
      refine anyP_one 5 (by kernel_rfl) rfl (fun K hK => ?_)
      replace hK := Lib.hid hK
      go_simp
      have A1 : Fr F0 w1 (w1.alloc (.cells #[.int .i64 x] 3)).drew := ((Fr.refl F0 w1).alloc _).drew
      have hHeld2 : (fun w' : World => w'.cell? ⟨B, 0, none⟩ = some (.slice a1 (n + L) c1) ∧ w'.cell? ⟨b, 2, none⟩ = some (.int .i64 x)) (w1.alloc (.cells #[.int .i64 x] 3)).drew := ⟨A1.cell yo id, A1.cell y2 id⟩
      refine hK.out _ _ (.inr hHeld2) ?_
      clear hK K
      try simp only [Act.put, List.setIfInBounds_toArray, List.set_cons_zero, List.set_cons_succ]
      refine anyP_one 6 (by kernel_rfl) rfl (fun K hK => ?_)
      replace hK := Lib.hid hK
      have L2 := L1h.out.fr0 A1
      have RX : Rd (w1.alloc (.cells #[.int .i64 x] 3)).drew (some ⟨w1.heap.size, 0, none⟩) 1 [.int .i64 x] := ((Own.lit (w := w1) (B := 0) (T := 3) [Value.int .i64 x] 1 rfl (Nat.zero_le _) (by omega)).rd).fr0 (Fr.refl _ _).drew
      refine stepAppRd E3 (by rfl) (by rfl) (by rfl) (by rfl) L2.own RX (fun u hu => by simp at hu; subst hu; rfl) (by omega) (by omega) L2.sz (n + L + 1) rfl ?_
      intro a2 c2 w2 own2 fr2 at2
      have hob := L2.own.blk
      have nB : ¬ onBlk a1 B := fun h => by have := (hob B h).1; omega
      have nB1 : ¬ onBlk a1 (B + 1) := fun h => by have := (hob _ h).1; omega
      have nb : ¬ onBlk a1 b := fun h => by have := (hob _ h).1; have := Hb.out; omega
      have yo2 := fr2.cell L2.out nB
      have yf2 := fr2.cell L2.fn nB1
      have y22 := fr2.cell (A1.cell y2 id) nb
      have ff2 := (fr2.frozen (World.block_lt_of_cell? _ _ L2.out) nB).trans L2.free
      have hHeld3 : (fun w' : World => w'.cell? ⟨B, 0, none⟩ = some (.slice a1 (n + L) c1) ∧ w'.cell? ⟨b, 2, none⟩ = some (.int .i64 x)) w2 := ⟨yo2, y22⟩
      have n2B : ¬ onBlk a2 B := fun h => (at2 B h).elim nB (fun h => by have := L2.sz; omega)
      have H2 : Hid (LS B (w2.setCell ⟨B, 0, none⟩ (.slice a2 (n + L + 1) c2)) a2 (n + L + 1) c2 (xs ++ l.list ++ [x])) := Lib.hid
        { fn := by rw [World.cell?_setCell_far _ _ _ _ (by show B ≠ B + 1; omega)]; exact yf2
          out := World.cell?_setCell_same _ _ _ yo2
          free := by rw [World.frozen?_setCell]; exact ff2
          own := by
            have h := own2.other (p := ⟨B, 0, none⟩) n2B (.slice a2 (n + L + 1) c2)
            simpa [ints] using h
          sz := by have := fr2.size; have := L2.sz; simp; omega }
      have F2 : Hid (Fr (LF B) w (w2.setCell ⟨B, 0, none⟩ (.slice a2 (n + L + 1) c2))) := Lib.hid (by
        have h1 : Fr (LF B) w1 w2 := Fr.trans (S := LF B) (A1.mono (fun _ _ h => h.elim)) (fr2.mono (S' := LF B) (fun j _ h => .inr (hob j h).1)) (fun _ _ h => h)
        exact Fr.setCell (p := ⟨B, 0, none⟩) (F1h.out.trans h1 (fun _ _ h => h)) (fun _ => .inl rfl) _)
      have y12 : w2.cell? ⟨b, 1, none⟩ = some (.pointer pr) := fr2.cell (A1.cell y1 id) nb
      have y13 : (w2.setCell ⟨B, 0, none⟩ (.slice a2 (n + L + 1) c2)).cell? ⟨b, 1, none⟩ = some (.pointer pr) := by rw [World.cell?_setCell_far _ _ _ _ (by show B ≠ b; have := Hb.out; omega)]; exact y12
      have yf3 := H2.out.fn
      clear hob nB nB1 nb yf2 y22 n2B L2 RX own2 fr2 at2 A1 hHeld2 hHeld yo y1 y2 L1h F1h y12
      refine hK.out _ _ (.inr hHeld3) ?_
      clear hK K
      try simp only [Act.put, List.setIfInBounds_toArray]
      refine anyP_one 7 (by kernel_rfl) rfl (fun K hK => ?_)
      replace hK := Lib.hid hK
      go_simp
      refine hK.out _ _ (.inl (by kernel_rfl)) ?_
      refine anyP_done (by kernel_rfl) ?_ _
      refine NoPanic.normal ?_
      clear hK K hHeld3 yo2 ff2
      try simp only [Act.put, List.setIfInBounds_toArray, List.set_cons_zero, List.set_cons_succ]
      generalize (w2.setCell ⟨B, 0, none⟩ (.slice a2 (n + L + 1) c2)) = w3 at *
      have IHr := Lib.hid (fun (W : World) (f : Fr F0 w3 W) => LPost.up f (List1_any B r pr W a2 (n + L + 1) c2 (xs ++ l.list ++ [x]) ((Hr.out.fr F2.out hLF.out).fr f (fun _ _ h => h)) (H2.out.fr0 f) (by omega)))
      go_wp2_with fail
      have Hh : w3.drew.cell? ⟨b, 1, none⟩ = some (.pointer pr) ∧ w3.drew.cell? ⟨B + 1, 0, none⟩ = some (.func (.func 44) #[] #[.pointer (some ⟨B + 1, 0, none⟩), .pointer (some ⟨B, 0, none⟩)]) := ⟨y13, yf3⟩
      go_region_held3 (fun w' => w'.cell? ⟨b, 1, none⟩ = some (.pointer pr) ∧ w'.cell? ⟨B + 1, 0, none⟩ = some (.func (.func 44) #[] #[.pointer (some ⟨B + 1, 0, none⟩), .pointer (some ⟨B, 0, none⟩)])) (go_keep)
        (first | (go_at_call 44; (with_reducible refine (IHr.out _ (by repeat (first | exact Fr.refl _ _ | refine Fr.drew ?_))).mono ?_); rintro e w4 ⟨a4, n4, c4, hn4, rfl, L4, F4⟩; have k0 := F4.cell y13 (hLF.out b Hb.out); have kf := L4.fn) | fail)
      all_goals
        have L4h := Lib.hid L4
        have F4h := Lib.hid F4
        have hn4h := Lib.hid hn4
        clear L4 F4 k0 kf Hh hn4
        go_wp2_with fail
        go_end0
        refine ⟨a4, n4, c4, by rw [hn4h.out, Tr.len_nd, HLn.out]; omega, rfl, ?_, F2.out.trans F4h.out (fun _ _ h => h)⟩
        have h := L4h.out
        rwa [show xs ++ l.list ++ [x] ++ r.list = xs ++ (Tr.nd l x r).list by simp [Tr.list]] at h
theorem TMB.toTM {w : World} {B : Nat} : ∀ {t : Tr} {p : Option Addr}, TMB w B t p → TM w t p
  | .nil, _, h => h
  | .nd _ _ _, _, ⟨b, pl, pr, h1, _, h2, h3, h4⟩ => ⟨b, pl, pr, h1, h2, TMB.toTM h3, TMB.toTM h4⟩
set_option maxHeartbeats 4000000 in
theorem List_any {t : Tr} {p : Option Addr} {w : World} (h : TrM w t p) (hn : t.len ≤ 100000) : Calls Try.prog 20 #[.pointer p] w fun e w' => ∃ a m c, m = t.len ∧ e = .returned (.slice a m c) ∧ Own w' w.heap.size 3 a m c (ints t.list) ∧ Fr F0 w w' := by
  obtain ⟨b, pr, rfl, ⟨hc, _⟩, ht⟩ := h
  have hW : Fr F0 w (((w.alloc (.cells #[.slice none 0 0] 22)).alloc (.cells #[.func (.func 44) #[] #[.pointer (some ⟨w.heap.size + 1, 0, none⟩), .pointer (some ⟨w.heap.size, 0, none⟩)]] 73))) := ((Fr.refl _ _).alloc _).alloc _
  have hb : b < w.heap.size := World.block_lt_of_cell? _ _ hc
  have hTB := (ht.bd).fr hW (fun _ _ h => h)
  have s1 : (w.alloc (.cells #[.slice none 0 0] 22)).heap.size = w.heap.size + 1 := size_alloc _ _
  have B1 := (Blk.new w 22 [.slice none 0 0]).alloc (.cells #[.func (.func 44) #[] #[.pointer (some ⟨w.heap.size + 1, 0, none⟩), .pointer (some ⟨w.heap.size, 0, none⟩)]] 73)
  have B2 := Blk.new (w.alloc (.cells #[.slice none 0 0] 22)) 73 [.func (.func 44) #[] #[.pointer (some ⟨w.heap.size + 1, 0, none⟩), .pointer (some ⟨w.heap.size, 0, none⟩)]]
  rw [s1] at B2
  have HL : LS w.heap.size (((w.alloc (.cells #[.slice none 0 0] 22)).alloc (.cells #[.func (.func 44) #[] #[.pointer (some ⟨w.heap.size + 1, 0, none⟩), .pointer (some ⟨w.heap.size, 0, none⟩)]] 73))) none 0 0 [] :=
    { fn := B2.cell (i := 0) rfl
      out := B1.cell (i := 0) rfl
      free := B1.free 0
      own := Own.nil _ _ _
      sz := by rw [size_alloc, size_alloc]; omega }
  have hcall := Lib.hid (fun (W : World) (f : Fr F0 (((w.alloc (.cells #[.slice none 0 0] 22)).alloc (.cells #[.func (.func 44) #[] #[.pointer (some ⟨w.heap.size + 1, 0, none⟩), .pointer (some ⟨w.heap.size, 0, none⟩)]] 73))) W) => LPost.up f (List1_any w.heap.size t pr W none 0 0 [] (hTB.fr f (fun _ _ h => h)) (HL.fr0 f) (by omega)))
  have x0 := hW.cell hc id
  have Hbw := Lib.hid hb
  have x1 := HL.fn
  have HLh := Lib.hid HL
  have hWh := Lib.hid hW
  clear hTB B1 B2 HL hW hn ht s1
  go_enter Try.func20, Try.ntmps20
  go_wp2_with fail
  obtain ⟨B, hB⟩ : ∃ B, B = w.heap.size := ⟨_, rfl⟩
  obtain ⟨W0, hW0⟩ : ∃ W, W = ((w.alloc (.cells #[.slice none 0 0] 22)).alloc (.cells #[.func (.func 44) #[] #[.pointer (some ⟨w.heap.size + 1, 0, none⟩), .pointer (some ⟨w.heap.size, 0, none⟩)]] 73)) := ⟨_, rfl⟩
  rw [← hW0, ← hB] at HLh hcall x1
  rw [← hW0] at hWh x0
  rw [← hW0, ← hB]
  have HB := Lib.hid hB
  clear hW0 hB hc hb
  have Hh : W0.drew.cell? ⟨b, 0, none⟩ = some (.pointer pr) ∧ W0.drew.cell? ⟨B + 1, 0, none⟩ = some (.func (.func 44) #[] #[.pointer (some ⟨B + 1, 0, none⟩), .pointer (some ⟨B, 0, none⟩)]) := ⟨x0, x1⟩
  have nb : Hid (¬ LF B b) := Lib.hid (fun h => by have h1 := HB.out; have h2 := Hbw.out; rcases h with h | h <;> omega)
  go_region_held3 (fun w' => w'.cell? ⟨b, 0, none⟩ = some (.pointer pr) ∧ w'.cell? ⟨B + 1, 0, none⟩ = some (.func (.func 44) #[] #[.pointer (some ⟨B + 1, 0, none⟩), .pointer (some ⟨B, 0, none⟩)])) (go_keep)
    (first | (go_at_call 44; (with_reducible refine (hcall.out _ (by repeat (first | exact Fr.refl _ _ | refine Fr.drew ?_))).mono ?_); rintro e w4 ⟨a4, n4, c4, hn4, rfl, L4, F4⟩; have k0 := F4.cell x0 nb.out; have kf := L4.fn) | fail)
  all_goals
    have L4h := Lib.hid L4
    have F4h := Lib.hid F4
    have hn4h := Lib.hid hn4
    have yo := L4.out
    clear L4 F4 k0 kf Hh hn4 x0 x1
    go_wp2_with fail
    go_ret
    exact ⟨a4, n4, c4, by rw [hn4h.out]; omega, rfl, by have h := L4h.out.own; rw [List.nil_append] at h; exact h.mono (by have := HB.out; omega), hWh.out.trans F4h.out (fun j h1 h2 => by have := HB.out; rcases h2 with h2 | h2 <;> omega)⟩
end Go.Proofs.Ytdihajeccjdhkaa
