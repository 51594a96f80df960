/- LinkcutUndone: the walk. -/
import Derived.Test.YtfeokafjehpgnaaV9
namespace Go.Proofs.Ytfeokafjehpgnaa
open Go.RowKit
attribute [local go_sem ↓] Go.wp_at_zero Go.wp_at_succ

/-- In LinkcutUndone: forest, reference, both boxes, and the list of parents taken before. -/
structure UL (w W : World) (f b B n : Nat) (s : Int) (P' : Nat → Nat) (wt' : Nat → Int) (P : Nat → Nat) (wt : Nat → Int) (wa : Option Addr) (wc : Nat) (pa : Option Addr) (pc mb fb : Nat) (a1 : Option Addr) (k1 : Nat) (xs : List Int) : Prop where
  l2 : L2 w W f b B n s P' wt' P wt wa wc pa pc mb
  fbk : Blk W fb 26 [.pointer (some ⟨f, 0, none⟩)]
  n1 : fb ≠ f
  n2 : fb ≠ b
  bf : Rd W a1 k1 (ints xs)
  bo : ∀ k, onBlk a1 k → k ≠ f ∧ k ≠ b
section
variable {w W W' : World} {f b B n mb fb k1 : Nat} {s d : Int} {P P' P2 : Nat → Nat} {wt wt' wt2 : Nat → Int} {wa : Option Addr} {wc : Nat} {pa : Option Addr} {pc : Nat} {a1 : Option Addr} {xs : List Int}
theorem UL.mbk (h : UL w W f b B n s P' wt' P wt wa wc pa pc mb fb a1 k1 xs) : Blk W mb 28 [.slice wa n wc, .slice pa n pc] := h.l2.mbk
theorem UL.fr0 (h : UL w W f b B n s P' wt' P wt wa wc pa pc mb fb a1 k1 xs) (F : Fr F0 W W') : UL w W' f b B n s P' wt' P wt wa wc pa pc mb fb a1 k1 xs :=
  ⟨h.l2.fr0 F, h.fbk.fr F id, h.n1, h.n2, h.bf.fr0 F, h.bo⟩
theorem UL.kp (h : UL w W f b B n s P' wt' P wt wa wc pa pc mb fb a1 k1 xs) (hk : Kp W W' f b n s d P2 wt2) : ∃ s', s ≤ s' ∧ s' ≤ s + d ∧ UL w W' f b B n s' P2 wt2 P wt wa wc pa pc mb fb a1 k1 xs := by
  obtain ⟨s', h1, h2, h3⟩ := h.l2.kp hk
  obtain ⟨_, _, _, _, F⟩ := hk
  exact ⟨s', h1, h2, h3, h.fbk.fr F (fun e => by rcases e with e | e; exact h.n1 e; exact h.n2 e), h.n1, h.n2, h.bf.fr F (fun k hk e => by rcases e with e | e; exact (h.bo k hk).1 e; exact (h.bo k hk).2 e), h.bo⟩
theorem UL.set (h : UL w W f b B n s P' wt' P wt wa wc pa pc mb fb a1 k1 xs) {B0 k c : Nat} {a : Option Addr} {ys : List Int} (o : Own W B0 3 a k c (ints ys)) (hf : f < B0 ∧ b < B0) : UL w W f b B n s P' wt' P wt wa wc pa pc mb fb a k ys :=
  ⟨h.l2, h.fbk, h.n1, h.n2, o.rd, fun q hq => by have := (o.blk q hq).1; omega⟩
theorem FR.undo (h : FR w W f b B n s P wt wa wc pa pc) : UL w ((W.alloc (.cells #[.pointer (some ⟨f, 0, none⟩)] 26)).alloc (.cells #[.slice wa n wc, .slice pa n pc] 28)) f b B n s P wt P wt wa wc pa pc (W.heap.size + 1) W.heap.size none 0 [] := by
  have k := (h.fr0 ((Fr.refl F0 W).alloc (.cells #[.pointer (some ⟨f, 0, none⟩)] 26))).two
  have e : (W.alloc (.cells #[.pointer (some ⟨f, 0, none⟩)] 26)).heap.size = W.heap.size + 1 := by simp
  rw [e] at k
  have h1 := h.fB
  have h2 := h.bB
  have h3 := h.BW
  exact ⟨k, (Blk.new W 26 [.pointer (some ⟨f, 0, none⟩)]).fr ((Fr.refl F0 _).alloc _) id, by omega, by omega, Rd.nil _ _, fun q hq => by obtain ⟨_, _, hq⟩ := hq; cases hq⟩
end

set_option maxRecDepth 100000 in
set_option maxHeartbeats 4000000 in
theorem Undone_many (w : World) {a st : Option Addr} {n c m d : Nat} {ws : List Int} {R : Nat → Nat → Int} {v u : Int} (_hp : Rd w a n (ints ws)) (_hs : ArgSt w st m d stepK R) (hm : manyB n m = true) :
    Calls Try.prog 6 #[.slice a n c, .slice st m d, .int .i64 v, .int .i64 u] w fun e w' => e = .returned (.bool true) ∧ Fr F0 w w' := by
  have HM := Lib.hid hm
  clear _hp _hs hm
  go_enter Try.func6, Try.ntmps6
  go_wp2_with (first
    | (go_at_call 9; refine (awake_any _).mono ?_; rintro e w0 ⟨rfl, F0'⟩; have FA := Lib.hid F0'; clear F0')
    | (go_at_call 10; refine (many_any _ _ _ _ _ _ _).mono ?_; rintro e w1 ⟨rfl, rfl⟩; rw [HM.out]))
  go_ret
  exact ⟨rfl, FA.out⟩

set_option maxRecDepth 100000 in
set_option maxHeartbeats 4000000 in
theorem Undone_none (w : World) {a st : Option Addr} {n c m d : Nat} {ws : List Int} {R : Nat → Nat → Int} {v u : Int} (hp : Rd w a n (ints ws)) (_hs : ArgSt w st m d stepK R) (hm : manyB n m = false) (hb : ws.any badW = true ∨ (ws.any badW = false ∧ 1000 < n)) :
    Calls Try.prog 6 #[.slice a n c, .slice st m d, .int .i64 v, .int .i64 u] w fun e w' => e = .returned (.bool true) ∧ Fr F0 w w' := by
  have HM := Lib.hid hm
  have Hp := Lib.hid hp
  have HB := Lib.hid hb
  clear hp _hs hm hb
  go_enter Try.func6, Try.ntmps6
  go_wp2_with (first
    | (go_at_call 9; refine (awake_any _).mono ?_; rintro e w0 ⟨rfl, F0'⟩; have FA := Lib.hid F0'; clear F0')
    | (go_at_call 10; refine (many_any _ _ _ _ _ _ _).mono ?_; rintro e w1 ⟨rfl, rfl⟩; rw [HM.out])
    | (go_at_call 11; refine (play_none _ (Hp.out.fr0 FA.out) HB.out).mono ?_; rintro e w2 ⟨rfl, F2⟩; have FB := Lib.hid (FA.out.trans F2 (fun _ _ h => h)); clear F2))
  go_ret
  exact ⟨rfl, (FB.out.alloc _).alloc _⟩

set_option maxRecDepth 100000 in
set_option maxHeartbeats 4000000 in
theorem Undone_o1 (w : World) {a st : Option Addr} {n c m d : Nat} {ws : List Int} {R : Nat → Nat → Int} {v u : Int} (hp : Rd w a n (ints ws)) (hs : ArgSt w st m d stepK R) (hm : manyB n m = false) (hb : ws.any badW = false) (hn : ¬ 1000 < n) (hv : outB n v = true) :
    Calls Try.prog 6 #[.slice a n c, .slice st m d, .int .i64 v, .int .i64 u] w fun e w' => e = .returned (.bool true) ∧ Fr F0 w w' := by
  obtain ⟨hn60, hm80⟩ := cases_of hm hb hn
  have HM := Lib.hid hm
  have Hp := Lib.hid hp
  have HA := Lib.hid hs
  have HB := Lib.hid hb
  have HV := Lib.hid hv
  have HS : Hid (∀ (P : Nat → Nat) (wt : Nat → Int), Stp n P wt 1 v u 2 P wt) := Lib.hid (fun _ _ => .link_out (by rw [hv]; rfl))
  clear hv
  clear hp hs hm hb hn
  go_enter Try.func6, Try.ntmps6
  go_wp2_with (first
    | (go_at_call 9; refine (awake_any _).mono ?_; rintro e w0 ⟨rfl, F0'⟩; have FA := Lib.hid F0'; clear F0')
    | (go_at_call 10; refine (many_any _ _ _ _ _ _ _).mono ?_; rintro e w1 ⟨rfl, rfl⟩; rw [HM.out])
    | (go_at_call 11; refine (play_ok _ (Hp.out.fr0 FA.out) HB.out hn60 (HA.out.fr0 FA.out) hm80).mono ?_; rintro e wp ⟨f, b, B, s1, P, wt, wa, wc, pa, pc, rfl, Y0, sa1, sb1⟩; have Y1 := Lib.hid Y0.undo; have FW := FA.out; have m0 := Y1.out.mbk.cell (i := 0) rfl; have m1 := Y1.out.mbk.cell (i := 1) rfl; have ltm := Y1.out.mbk.lt; replace Y0 := Lib.hid Y0; clear FW; have f0 := Y1.out.fbk.cell (i := 0) rfl)
    | (go_at_call 26; refine (all_any _ Y1.out.l2.lf (by omega) (by omega) Y1.out.l2.mbk Y1.out.fbk Y1.out.n1 Y1.out.n2).mono ?_; rintro e w2 ⟨a2, c2, rfl, O2, KK⟩; have BB := Y1.out.l2.lf.bounds; obtain ⟨s2, sa2, sb2, Y2⟩ := Y1.out.kp KK; replace Y2 := Lib.hid (Y2.set O2 BB); clear KK O2 BB m0 m1 ltm Y1; have m0 := Y2.out.mbk.cell (i := 0) rfl; have m1 := Y2.out.mbk.cell (i := 1) rfl; have ltm := Y2.out.mbk.lt; have f0 := Y2.out.fbk.cell (i := 0) rfl)
    | (go_at_call 28; refine (link_call Y2.out.l2.lf (by omega) (by omega) (HS.out _ _)).mono ?_; rintro e w3 ⟨rfl, KK⟩; obtain ⟨s3, sa3, sb3, Y3⟩ := Y2.out.kp KK; replace Y3 := Lib.hid Y3; clear KK m0 m1 ltm Y2; have m0 := Y3.out.mbk.cell (i := 0) rfl; have m1 := Y3.out.mbk.cell (i := 1) rfl; have ltm := Y3.out.mbk.lt; have f0 := Y3.out.fbk.cell (i := 0) rfl)
    | (go_at_call 26; refine (all_any _ Y3.out.l2.lf (by omega) (by omega) Y3.out.l2.mbk Y3.out.fbk Y3.out.n1 Y3.out.n2).mono ?_; rintro e w4 ⟨a4, c4, rfl, O4, KK⟩; have BB := Y3.out.l2.lf.bounds; obtain ⟨s4, sa4, sb4, Y4⟩ := Y3.out.kp KK; replace Y4 := Lib.hid Y4; have R4 := Lib.hid O4.rd; clear KK O4 BB m0 m1 ltm Y3; have m0 := Y4.out.mbk.cell (i := 0) rfl; have m1 := Y4.out.mbk.cell (i := 1) rfl; have ltm := Y4.out.mbk.lt; have f0 := Y4.out.fbk.cell (i := 0) rfl)
    | (go_at_call 30; refine (equal_same _ R4.out Y4.out.bf).mono ?_; rintro e w5 ⟨rfl, KK⟩; have Y5 := Lib.hid (Y4.out.fr0 KK); clear KK m0 m1 ltm Y4; have m0 := Y5.out.mbk.cell (i := 0) rfl; have m1 := Y5.out.mbk.cell (i := 1) rfl; have ltm := Y5.out.mbk.lt; have f0 := Y5.out.fbk.cell (i := 0) rfl; clear R4)
    | (go_at_call 15; refine (refIs_any Y5.out.l2.rs v).mono ?_; rintro e w6 ⟨rfl, KK⟩; have Y6 := Lib.hid (Y5.out.fr0 KK); clear KK m0 m1 ltm Y5; have m0 := Y6.out.mbk.cell (i := 0) rfl; have m1 := Y6.out.mbk.cell (i := 1) rfl; have ltm := Y6.out.mbk.lt; have f0 := Y6.out.fbk.cell (i := 0) rfl; rw [HV.out]; clear HV)
    | (go_at_call 26; refine (all_any _ Y6.out.l2.lf (by omega) (by omega) Y6.out.l2.mbk Y6.out.fbk Y6.out.n1 Y6.out.n2).mono ?_; rintro e w7 ⟨a7, c7, rfl, O7, KK⟩; have BB := Y6.out.l2.lf.bounds; obtain ⟨s7, sa7, sb7, Y7⟩ := Y6.out.kp KK; replace Y7 := Lib.hid Y7; have R7 := Lib.hid O7.rd; clear KK O7 BB m0 m1 ltm Y6; have m0 := Y7.out.mbk.cell (i := 0) rfl; have m1 := Y7.out.mbk.cell (i := 1) rfl; have ltm := Y7.out.mbk.lt; have f0 := Y7.out.fbk.cell (i := 0) rfl)
    | (go_at_call 30; refine (equal_same _ R7.out Y7.out.bf).mono ?_; rintro e w8 ⟨rfl, KK⟩; have Y8 := Lib.hid (Y7.out.fr0 KK); clear KK m0 m1 ltm Y7; have m0 := Y8.out.mbk.cell (i := 0) rfl; have m1 := Y8.out.mbk.cell (i := 1) rfl; have ltm := Y8.out.mbk.lt; have f0 := Y8.out.fbk.cell (i := 0) rfl; clear R7)
    | (go_at_call 30; refine (equal_same _ Y8.out.bf Y8.out.l2.rs.ps).mono ?_; rintro e w9 ⟨rfl, KK⟩; have Y9 := Lib.hid (Y8.out.fr0 KK); clear KK m0 m1 ltm Y8; have m0 := Y9.out.mbk.cell (i := 0) rfl; have m1 := Y9.out.mbk.cell (i := 1) rfl; have ltm := Y9.out.mbk.lt; have f0 := Y9.out.fbk.cell (i := 0) rfl))
  go_ret
  exact ⟨rfl, FA.out.trans Y9.out.l2.fr (fun _ _ h => h)⟩

set_option maxRecDepth 100000 in
set_option maxHeartbeats 4000000 in
theorem Undone_in (w : World) {a st : Option Addr} {n c m d : Nat} {ws : List Int} {R : Nat → Nat → Int} {v : Nat} {u : Int} (hp : Rd w a n (ints ws)) (hs : ArgSt w st m d stepK R) (hm : manyB n m = false) (hb : ws.any badW = false) (hn : ¬ 1000 < n) (hv : v < n) :
    Calls Try.prog 6 #[.slice a n c, .slice st m d, .int .i64 (v : Nat), .int .i64 u] w fun e w' => e = .returned (.bool true) ∧ Fr F0 w w' := by
  obtain ⟨hn60, hm80⟩ := cases_of hm hb hn
  have HM := Lib.hid hm
  have Hp := Lib.hid hp
  have HA := Lib.hid hs
  have HB := Lib.hid hb
  have HV := Lib.hid (outB_nat hv)
  clear hp hs hm hb hn
  go_enter Try.func6, Try.ntmps6
  go_wp2_with (first
    | (go_at_call 9; refine (awake_any _).mono ?_; rintro e w0 ⟨rfl, F0'⟩; have FA := Lib.hid F0'; clear F0')
    | (go_at_call 10; refine (many_any _ _ _ _ _ _ _).mono ?_; rintro e w1 ⟨rfl, rfl⟩; rw [HM.out])
    | (go_at_call 11; refine (play_ok _ (Hp.out.fr0 FA.out) HB.out hn60 (HA.out.fr0 FA.out) hm80).mono ?_; rintro e wp ⟨f, b, B, s1, P, wt, wa, wc, pa, pc, rfl, Y0, sa1, sb1⟩; obtain ⟨pb, po, rfl, -⟩ := Y0.rs.ps.cells (by omega); have Y1 := Lib.hid Y0.undo; have FW := FA.out; have m0 := Y1.out.mbk.cell (i := 0) rfl; have m1 := Y1.out.mbk.cell (i := 1) rfl; have ltm := Y1.out.mbk.lt; replace Y0 := Lib.hid Y0; clear FW; have f0 := Y1.out.fbk.cell (i := 0) rfl; have HQ : Hid ((ints (QL n P))[v]? = some (.int .i64 ((P (v + 1) : Int) - 1))) := Lib.hid (by unfold ints; rw [List.getElem?_map, QL_get hv]; rfl)))
  obtain ⟨e0, P', wt', hst⟩ := stp_ex Y1.out.l2.lf.par wt 1 (v : Nat) u
  have key : e0 ≠ 0 → P' = P ∧ wt' = wt := by
    intro h
    cases hst <;> first | exact ⟨rfl, rfl⟩ | exact absurd rfl h
  have hvi : (v : Int) < (n : Int) := by omega
  by_cases he : e0 = 0
  · subst he
    have hok : P (v + 1) = 0 ∧ P' (v + 1) ≠ 0 ∧ (P' (v + 1) : Int) - 1 = u ∧ ∀ z ∈ vts n, z ≠ v + 1 → P z = P' z := by
      generalize hvv : ((v : Nat) : Int) = v' at hst
      cases hst with
      | link_ok k1 k2 k3 k4 k5 k6 k7 =>
        have := Int.ofNat.inj hvv
        subst this
        exact ⟨k3, by omega, by omega, fun z h1 h2 => (k7 z h1 h2).symm⟩
      | none k1 => exact absurd rfl k1
    obtain ⟨hp0, hn1, hpu, hres⟩ := hok
    have HS := Lib.hid hst
    have HN := Lib.hid (And.intro hn1 hres)
    have HPU := Lib.hid hpu
    clear hst key hn1 hpu hres
    go_wp2_with (first
      | (go_at_call 26; refine (all_any _ Y1.out.l2.lf (by omega) (by omega) Y1.out.l2.mbk Y1.out.fbk Y1.out.n1 Y1.out.n2).mono ?_; rintro e w2 ⟨a2, c2, rfl, O2, KK⟩; have BB := Y1.out.l2.lf.bounds; obtain ⟨s2, sa2, sb2, Y2⟩ := Y1.out.kp KK; replace Y2 := Lib.hid (Y2.set O2 BB); clear KK O2 BB m0 m1 ltm Y1; have m0 := Y2.out.mbk.cell (i := 0) rfl; have m1 := Y2.out.mbk.cell (i := 1) rfl; have ltm := Y2.out.mbk.lt; have f0 := Y2.out.fbk.cell (i := 0) rfl)
      | (go_at_call 28; refine (link_call Y2.out.l2.lf (by omega) (by omega) HS.out).mono ?_; rintro e w3 ⟨rfl, KK⟩; obtain ⟨s3, sa3, sb3, Y3⟩ := Y2.out.kp KK; replace Y3 := Lib.hid Y3; clear KK m0 m1 ltm Y2; have m0 := Y3.out.mbk.cell (i := 0) rfl; have m1 := Y3.out.mbk.cell (i := 1) rfl; have ltm := Y3.out.mbk.lt; have f0 := Y3.out.fbk.cell (i := 0) rfl)
      | (go_at_call 27; refine (Parent_any Y3.out.l2.lf (by omega) (by omega) hv).mono ?_; rintro e w4 ⟨rfl, KK⟩; obtain ⟨s4, sa4, sb4, Y4⟩ := Y3.out.kp KK; replace Y4 := Lib.hid Y4; clear KK m0 m1 ltm Y3; have m0 := Y4.out.mbk.cell (i := 0) rfl; have m1 := Y4.out.mbk.cell (i := 1) rfl; have ltm := Y4.out.mbk.lt; have f0 := Y4.out.fbk.cell (i := 0) rfl; rw [HPU.out])
      | (go_at_call 29; refine (Cut_ok (P' := P) Y4.out.l2.lf (by omega) (by omega) hv HN.out.1 hp0 HN.out.2).mono ?_; rintro e w5 ⟨rfl, KK⟩; obtain ⟨s5, sa5, sb5, Y5⟩ := Y4.out.kp KK; replace Y5 := Lib.hid Y5; clear KK m0 m1 ltm Y4; have m0 := Y5.out.mbk.cell (i := 0) rfl; have m1 := Y5.out.mbk.cell (i := 1) rfl; have ltm := Y5.out.mbk.lt; have f0 := Y5.out.fbk.cell (i := 0) rfl)
      | (go_at_call 26; refine (all_any _ Y5.out.l2.lf (by omega) (by omega) Y5.out.l2.mbk Y5.out.fbk Y5.out.n1 Y5.out.n2).mono ?_; rintro e w6 ⟨a6, c6, rfl, O6, KK⟩; have BB := Y5.out.l2.lf.bounds; obtain ⟨s6, sa6, sb6, Y6⟩ := Y5.out.kp KK; replace Y6 := Lib.hid Y6; have R6 := Lib.hid O6.rd; clear KK O6 BB m0 m1 ltm Y5; have m0 := Y6.out.mbk.cell (i := 0) rfl; have m1 := Y6.out.mbk.cell (i := 1) rfl; have ltm := Y6.out.mbk.lt; have f0 := Y6.out.fbk.cell (i := 0) rfl)
      | (go_at_call 30; refine (equal_same _ R6.out Y6.out.bf).mono ?_; rintro e w7 ⟨rfl, KK⟩; have Y7 := Lib.hid (Y6.out.fr0 KK); clear KK m0 m1 ltm Y6; have m0 := Y7.out.mbk.cell (i := 0) rfl; have m1 := Y7.out.mbk.cell (i := 1) rfl; have ltm := Y7.out.mbk.lt; have f0 := Y7.out.fbk.cell (i := 0) rfl; clear R6)
      | (go_at_call 15; refine (refIs_any Y7.out.l2.rs (v : Nat)).mono ?_; rintro e w8 ⟨rfl, KK⟩; have Y8 := Lib.hid (Y7.out.fr0 KK); clear KK m0 m1 ltm Y7; have m0 := Y8.out.mbk.cell (i := 0) rfl; have m1 := Y8.out.mbk.cell (i := 1) rfl; have ltm := Y8.out.mbk.lt; have f0 := Y8.out.fbk.cell (i := 0) rfl; rw [HV.out]; clear HV; have dv := Y8.out.l2.rs.ps.at HQ.out)
      | (go_at_call 29; refine (Cut_state Y8.out.l2.lf (by omega) (by omega) hv hp0).mono ?_; rintro e w9 ⟨rfl, KK⟩; obtain ⟨s9, sa9, sb9, Y9⟩ := Y8.out.kp KK; replace Y9 := Lib.hid Y9; clear KK m0 m1 ltm Y8; have m0 := Y9.out.mbk.cell (i := 0) rfl; have m1 := Y9.out.mbk.cell (i := 1) rfl; have ltm := Y9.out.mbk.lt; have f0 := Y9.out.fbk.cell (i := 0) rfl)
      | (go_at_call 26; refine (all_any _ Y9.out.l2.lf (by omega) (by omega) Y9.out.l2.mbk Y9.out.fbk Y9.out.n1 Y9.out.n2).mono ?_; rintro e w10 ⟨a10, c10, rfl, O10, KK⟩; have BB := Y9.out.l2.lf.bounds; obtain ⟨s10, sa10, sb10, Y10⟩ := Y9.out.kp KK; replace Y10 := Lib.hid Y10; have R10 := Lib.hid O10.rd; clear KK O10 BB m0 m1 ltm Y9; have m0 := Y10.out.mbk.cell (i := 0) rfl; have m1 := Y10.out.mbk.cell (i := 1) rfl; have ltm := Y10.out.mbk.lt; have f0 := Y10.out.fbk.cell (i := 0) rfl)
      | (go_at_call 30; refine (equal_same _ R10.out Y10.out.bf).mono ?_; rintro e w11 ⟨rfl, KK⟩; have Y11 := Lib.hid (Y10.out.fr0 KK); clear KK m0 m1 ltm Y10; have m0 := Y11.out.mbk.cell (i := 0) rfl; have m1 := Y11.out.mbk.cell (i := 1) rfl; have ltm := Y11.out.mbk.lt; have f0 := Y11.out.fbk.cell (i := 0) rfl; clear R10)
      | (go_at_call 30; refine (equal_same _ Y11.out.bf Y11.out.l2.rs.ps).mono ?_; rintro e w12 ⟨rfl, KK⟩; have Y12 := Lib.hid (Y11.out.fr0 KK); clear KK m0 m1 ltm Y11; have m0 := Y12.out.mbk.cell (i := 0) rfl; have m1 := Y12.out.mbk.cell (i := 1) rfl; have ltm := Y12.out.mbk.lt; have f0 := Y12.out.fbk.cell (i := 0) rfl))
    go_ret
    exact ⟨rfl, FA.out.trans Y12.out.l2.fr (fun _ _ h => h)⟩

  · obtain ⟨rfl, rfl⟩ := key he
    have HS := Lib.hid hst
    clear hst key
    by_cases hp0 : P' (v + 1) = 0
    · go_wp2_with (first
        | (go_at_call 26; refine (all_any _ Y1.out.l2.lf (by omega) (by omega) Y1.out.l2.mbk Y1.out.fbk Y1.out.n1 Y1.out.n2).mono ?_; rintro e w2 ⟨a2, c2, rfl, O2, KK⟩; have BB := Y1.out.l2.lf.bounds; obtain ⟨s2, sa2, sb2, Y2⟩ := Y1.out.kp KK; replace Y2 := Lib.hid (Y2.set O2 BB); clear KK O2 BB m0 m1 ltm Y1; have m0 := Y2.out.mbk.cell (i := 0) rfl; have m1 := Y2.out.mbk.cell (i := 1) rfl; have ltm := Y2.out.mbk.lt; have f0 := Y2.out.fbk.cell (i := 0) rfl)
        | (go_at_call 28; refine (link_call Y2.out.l2.lf (by omega) (by omega) HS.out).mono ?_; rintro e w3 ⟨rfl, KK⟩; obtain ⟨s3, sa3, sb3, Y3⟩ := Y2.out.kp KK; replace Y3 := Lib.hid Y3; clear KK m0 m1 ltm Y2; have m0 := Y3.out.mbk.cell (i := 0) rfl; have m1 := Y3.out.mbk.cell (i := 1) rfl; have ltm := Y3.out.mbk.lt; have f0 := Y3.out.fbk.cell (i := 0) rfl)
        | (go_at_call 26; refine (all_any _ Y3.out.l2.lf (by omega) (by omega) Y3.out.l2.mbk Y3.out.fbk Y3.out.n1 Y3.out.n2).mono ?_; rintro e w4 ⟨a4, c4, rfl, O4, KK⟩; have BB := Y3.out.l2.lf.bounds; obtain ⟨s4, sa4, sb4, Y4⟩ := Y3.out.kp KK; replace Y4 := Lib.hid Y4; have R4 := Lib.hid O4.rd; clear KK O4 BB m0 m1 ltm Y3; have m0 := Y4.out.mbk.cell (i := 0) rfl; have m1 := Y4.out.mbk.cell (i := 1) rfl; have ltm := Y4.out.mbk.lt; have f0 := Y4.out.fbk.cell (i := 0) rfl)
        | (go_at_call 30; refine (equal_same _ R4.out Y4.out.bf).mono ?_; rintro e w5 ⟨rfl, KK⟩; have Y5 := Lib.hid (Y4.out.fr0 KK); clear KK m0 m1 ltm Y4; have m0 := Y5.out.mbk.cell (i := 0) rfl; have m1 := Y5.out.mbk.cell (i := 1) rfl; have ltm := Y5.out.mbk.lt; have f0 := Y5.out.fbk.cell (i := 0) rfl; clear R4)
        | (go_at_call 15; refine (refIs_any Y5.out.l2.rs (v : Nat)).mono ?_; rintro e w6 ⟨rfl, KK⟩; have Y6 := Lib.hid (Y5.out.fr0 KK); clear KK m0 m1 ltm Y5; have m0 := Y6.out.mbk.cell (i := 0) rfl; have m1 := Y6.out.mbk.cell (i := 1) rfl; have ltm := Y6.out.mbk.lt; have f0 := Y6.out.fbk.cell (i := 0) rfl; rw [HV.out]; clear HV; have dv := Y6.out.l2.rs.ps.at HQ.out)
        | (go_at_call 29; refine (Cut_state Y6.out.l2.lf (by omega) (by omega) hv hp0).mono ?_; rintro e w7 ⟨rfl, KK⟩; obtain ⟨s7, sa7, sb7, Y7⟩ := Y6.out.kp KK; replace Y7 := Lib.hid Y7; clear KK m0 m1 ltm Y6; have m0 := Y7.out.mbk.cell (i := 0) rfl; have m1 := Y7.out.mbk.cell (i := 1) rfl; have ltm := Y7.out.mbk.lt; have f0 := Y7.out.fbk.cell (i := 0) rfl)
        | (go_at_call 26; refine (all_any _ Y7.out.l2.lf (by omega) (by omega) Y7.out.l2.mbk Y7.out.fbk Y7.out.n1 Y7.out.n2).mono ?_; rintro e w8 ⟨a8, c8, rfl, O8, KK⟩; have BB := Y7.out.l2.lf.bounds; obtain ⟨s8, sa8, sb8, Y8⟩ := Y7.out.kp KK; replace Y8 := Lib.hid Y8; have R8 := Lib.hid O8.rd; clear KK O8 BB m0 m1 ltm Y7; have m0 := Y8.out.mbk.cell (i := 0) rfl; have m1 := Y8.out.mbk.cell (i := 1) rfl; have ltm := Y8.out.mbk.lt; have f0 := Y8.out.fbk.cell (i := 0) rfl)
        | (go_at_call 30; refine (equal_same _ R8.out Y8.out.bf).mono ?_; rintro e w9 ⟨rfl, KK⟩; have Y9 := Lib.hid (Y8.out.fr0 KK); clear KK m0 m1 ltm Y8; have m0 := Y9.out.mbk.cell (i := 0) rfl; have m1 := Y9.out.mbk.cell (i := 1) rfl; have ltm := Y9.out.mbk.lt; have f0 := Y9.out.fbk.cell (i := 0) rfl; clear R8)
        | (go_at_call 30; refine (equal_same _ Y9.out.bf Y9.out.l2.rs.ps).mono ?_; rintro e w10 ⟨rfl, KK⟩; have Y10 := Lib.hid (Y9.out.fr0 KK); clear KK m0 m1 ltm Y9; have m0 := Y10.out.mbk.cell (i := 0) rfl; have m1 := Y10.out.mbk.cell (i := 1) rfl; have ltm := Y10.out.mbk.lt; have f0 := Y10.out.fbk.cell (i := 0) rfl))
      go_ret
      exact ⟨rfl, FA.out.trans Y10.out.l2.fr (fun _ _ h => h)⟩
  
    · have hpi : ¬ ((P' (v + 1) : Int) - 1 < 0) := by omega
      go_wp2_with (first
        | (go_at_call 26; refine (all_any _ Y1.out.l2.lf (by omega) (by omega) Y1.out.l2.mbk Y1.out.fbk Y1.out.n1 Y1.out.n2).mono ?_; rintro e w2 ⟨a2, c2, rfl, O2, KK⟩; have BB := Y1.out.l2.lf.bounds; obtain ⟨s2, sa2, sb2, Y2⟩ := Y1.out.kp KK; replace Y2 := Lib.hid (Y2.set O2 BB); clear KK O2 BB m0 m1 ltm Y1; have m0 := Y2.out.mbk.cell (i := 0) rfl; have m1 := Y2.out.mbk.cell (i := 1) rfl; have ltm := Y2.out.mbk.lt; have f0 := Y2.out.fbk.cell (i := 0) rfl)
        | (go_at_call 28; refine (link_call Y2.out.l2.lf (by omega) (by omega) HS.out).mono ?_; rintro e w3 ⟨rfl, KK⟩; obtain ⟨s3, sa3, sb3, Y3⟩ := Y2.out.kp KK; replace Y3 := Lib.hid Y3; clear KK m0 m1 ltm Y2; have m0 := Y3.out.mbk.cell (i := 0) rfl; have m1 := Y3.out.mbk.cell (i := 1) rfl; have ltm := Y3.out.mbk.lt; have f0 := Y3.out.fbk.cell (i := 0) rfl)
        | (go_at_call 26; refine (all_any _ Y3.out.l2.lf (by omega) (by omega) Y3.out.l2.mbk Y3.out.fbk Y3.out.n1 Y3.out.n2).mono ?_; rintro e w4 ⟨a4, c4, rfl, O4, KK⟩; have BB := Y3.out.l2.lf.bounds; obtain ⟨s4, sa4, sb4, Y4⟩ := Y3.out.kp KK; replace Y4 := Lib.hid Y4; have R4 := Lib.hid O4.rd; clear KK O4 BB m0 m1 ltm Y3; have m0 := Y4.out.mbk.cell (i := 0) rfl; have m1 := Y4.out.mbk.cell (i := 1) rfl; have ltm := Y4.out.mbk.lt; have f0 := Y4.out.fbk.cell (i := 0) rfl)
        | (go_at_call 30; refine (equal_same _ R4.out Y4.out.bf).mono ?_; rintro e w5 ⟨rfl, KK⟩; have Y5 := Lib.hid (Y4.out.fr0 KK); clear KK m0 m1 ltm Y4; have m0 := Y5.out.mbk.cell (i := 0) rfl; have m1 := Y5.out.mbk.cell (i := 1) rfl; have ltm := Y5.out.mbk.lt; have f0 := Y5.out.fbk.cell (i := 0) rfl; clear R4)
        | (go_at_call 15; refine (refIs_any Y5.out.l2.rs (v : Nat)).mono ?_; rintro e w6 ⟨rfl, KK⟩; have Y6 := Lib.hid (Y5.out.fr0 KK); clear KK m0 m1 ltm Y5; have m0 := Y6.out.mbk.cell (i := 0) rfl; have m1 := Y6.out.mbk.cell (i := 1) rfl; have ltm := Y6.out.mbk.lt; have f0 := Y6.out.fbk.cell (i := 0) rfl; rw [HV.out]; clear HV; have dv := Y6.out.l2.rs.ps.at HQ.out)
        | (go_at_call 26; refine (all_any _ Y6.out.l2.lf (by omega) (by omega) Y6.out.l2.mbk Y6.out.fbk Y6.out.n1 Y6.out.n2).mono ?_; rintro e w7 ⟨a7, c7, rfl, O7, KK⟩; have BB := Y6.out.l2.lf.bounds; obtain ⟨s7, sa7, sb7, Y7⟩ := Y6.out.kp KK; replace Y7 := Lib.hid Y7; have R7 := Lib.hid O7.rd; clear KK O7 BB m0 m1 ltm Y6; have m0 := Y7.out.mbk.cell (i := 0) rfl; have m1 := Y7.out.mbk.cell (i := 1) rfl; have ltm := Y7.out.mbk.lt; have f0 := Y7.out.fbk.cell (i := 0) rfl)
        | (go_at_call 30; refine (equal_same _ R7.out Y7.out.bf).mono ?_; rintro e w8 ⟨rfl, KK⟩; have Y8 := Lib.hid (Y7.out.fr0 KK); clear KK m0 m1 ltm Y7; have m0 := Y8.out.mbk.cell (i := 0) rfl; have m1 := Y8.out.mbk.cell (i := 1) rfl; have ltm := Y8.out.mbk.lt; have f0 := Y8.out.fbk.cell (i := 0) rfl; clear R7)
        | (go_at_call 30; refine (equal_same _ Y8.out.bf Y8.out.l2.rs.ps).mono ?_; rintro e w9 ⟨rfl, KK⟩; have Y9 := Lib.hid (Y8.out.fr0 KK); clear KK m0 m1 ltm Y8; have m0 := Y9.out.mbk.cell (i := 0) rfl; have m1 := Y9.out.mbk.cell (i := 1) rfl; have ltm := Y9.out.mbk.lt; have f0 := Y9.out.fbk.cell (i := 0) rfl))
      go_ret
      exact ⟨rfl, FA.out.trans Y9.out.l2.fr (fun _ _ h => h)⟩
  

theorem Undone_law (a : Option Addr) (n c : Nat) (ws : List Int) (st : Option Addr) (m d : Nat) (R : Nat → Nat → Int) (v u : Int) (w : World) (h1 : ArgSl w a n c ws) (h2 : ArgSt w st m d [.i64, .i64, .i64] R) :
    Calls Try.prog 6 #[.slice a n c, .slice st m d, .int .i64 v, .int .i64 u] w fun e w' => e = .returned (.bool true) ∧ Fr F0 w w' := by
  cases hm : manyB n m with
  | true => exact Undone_many w h1.rd h2 hm
  | false =>
    cases hb : ws.any badW with
    | true => exact Undone_none w h1.rd h2 hm (.inl hb)
    | false =>
      by_cases hn : 1000 < n
      · exact Undone_none w h1.rd h2 hm (.inr ⟨hb, hn⟩)
      · cases hv : outB n v with
        | true => exact Undone_o1 w h1.rd h2 hm hb hn hv
        | false =>
          obtain ⟨v, rfl, hvn⟩ := outB_false hv
          exact Undone_in w h1.rd h2 hm hb hn hvn

end Go.Proofs.Ytfeokafjehpgnaa
