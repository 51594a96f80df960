/- splay: its regions. -/
import Derived.Test.YtfeokafjehpgnaaW10
namespace Go.Proofs.Ytfeokafjehpgnaa
open Go.RowKit
attribute [local go_sem ↓] Go.wp_at_zero Go.wp_at_succ
set_option maxRecDepth 100000 in
set_option maxHeartbeats 1000000 in
theorem spl_r2 {w W : World} {f b n : Nat} {s : Int} {V : K.Vs} {x bx : Nat} {pa : Option Addr} {pn pc : Nat} {vs Ds : List Nat} {c5 c7 c8 c9 : Value} {ds : List Deferred} {a : Act} (ha : a = SF f x (.pointer (some ⟨bx, 0, none⟩)) (.slice pa pn pc) c5 c7 c8 c9 ds (gOf a)) (S : SS w W f b n s V bx pa pn pc vs Ds) (hx : x ≤ n) :
    (rg53 2).wp Try.prog (Exit.then (SO w f b n s V x bx pa pn pc vs Ds (.int .i64 (x : Nat)) c7 c8 c9 ds 0 undef) fun _ _ _ => False) a W := by
  have hs := S.fs.small
  have y0 := S.fs.fb.cell (i := 0) rfl
  have o0 := S.one.cell
  have bxn : (x : Int) < (n : Int) + 1 := by omega
  have HS := Lib.hid S
  clear S
  rw [ha]
  clear ha
  generalize gOf a = gg
  unfold SF
  conv => arg 2; whnf
  go_wp2_with fail
  refine (show SO w f b n s V x bx pa pn pc vs Ds (.int .i64 (x : Nat)) c7 c8 c9 ds 0 undef _ _ from ⟨rfl, fun h => absurd rfl h, HS.out⟩)

set_option maxRecDepth 100000 in
set_option maxHeartbeats 1000000 in
theorem spl_r3 {w W : World} {f b n : Nat} {s : Int} {V : K.Vs} {x bx : Nat} {pa : Option Addr} {pn pc : Nat} {vs Ds : List Nat} {c7 c8 c9 : Value} {ds : List Deferred} {y : Nat} {a : Act} (ha : a = SF f x (.pointer (some ⟨bx, 0, none⟩)) (.slice pa pn pc) (.int .i64 (y : Nat)) c7 c8 c9 ds (gOf a)) (S : SS w W f b n s V bx pa pn pc vs Ds) (hx : x ≤ n) (hy : y ≤ n) (g : GV n V) :
    (rg53 3).wp Try.prog (Exit.then (SO w f b n s V x bx pa pn pc vs Ds (.int .i64 (y : Nat)) c7 c8 c9 ds (16) (.bool (!K.topB V y))) fun _ _ _ => False) a W := by
  have hs := S.fs.small
  have y0 := S.fs.fb.cell (i := 0) rfl
  have o0 := S.one.cell
  have bxn : (x : Int) < (n : Int) + 1 := by omega
  have HS := Lib.hid S
  clear S
  rw [ha]
  clear ha
  generalize gOf a = gg
  unfold SF
  conv => arg 2; whnf
  go_wp2_with (go_at_call 63; refine (top_any _ HS.out.fs g hy).mono ?_; rintro e w1 ⟨rfl, rfl⟩)
  refine (show SO w f b n s V x bx pa pn pc vs Ds (.int .i64 (y : Nat)) c7 c8 c9 ds (16) (.bool (!K.topB V y)) _ _ from ⟨rfl, fun _ => rfl, HS.out⟩)

set_option maxRecDepth 100000 in
set_option maxHeartbeats 1000000 in
theorem spl_r4 {w W : World} {f b n : Nat} {s : Int} {V : K.Vs} {x bx : Nat} {pa : Option Addr} {pn pc : Nat} {vs Ds : List Nat} {c7 c8 c9 : Value} {ds : List Deferred} {y : Nat} {a : Act} (ha : a = SF f x (.pointer (some ⟨bx, 0, none⟩)) (.slice pa pn pc) (.int .i64 (y : Nat)) c7 c8 c9 ds (gOf a)) (S : SS w W f b n s V bx pa pn pc vs Ds) (hx : x ≤ n) (hy : y ≤ n) :
    (rg53 4).wp Try.prog (Exit.then (SO w f b n s V x bx pa pn pc vs Ds (.int .i64 ((V y).up : Nat)) c7 c8 c9 ds 0 undef) fun _ _ _ => False) a W := by
  have hs := S.fs.small
  have y0 := S.fs.fb.cell (i := 0) rfl
  have o0 := S.one.cell
  have bxn : (x : Int) < (n : Int) + 1 := by omega
  have y1 := S.fs.c0 hy
  have byn : (y : Int) < (n : Int) + 1 := by omega
  have HS := Lib.hid S
  clear S
  rw [ha]
  clear ha
  generalize gOf a = gg
  unfold SF
  conv => arg 2; whnf
  go_wp2_with fail
  refine (show SO w f b n s V x bx pa pn pc vs Ds (.int .i64 ((V y).up : Nat)) c7 c8 c9 ds 0 undef _ _ from ⟨rfl, fun h => absurd rfl h, HS.out⟩)

set_option maxRecDepth 100000 in
set_option maxHeartbeats 1000000 in
theorem spl_r5 {w W : World} {f b n : Nat} {s : Int} {V : K.Vs} {x bx : Nat} {pa : Option Addr} {pn pc : Nat} {vs : List Nat} {c7 c8 c9 : Value} {ds : List Deferred} {y : Nat} {a : Act} (ha : a = SF f x (.pointer (some ⟨bx, 0, none⟩)) (.slice pa pn pc) (.int .i64 (y : Nat)) c7 c8 c9 ds (gOf a)) (S : SS w W f b n s V bx pa pn pc vs []) (hx : x ≤ n) (hp : pn ≤ 1000) :
    (rg53 5).wp Try.prog (Exit.then (fun a D => ∃ pa' pc', SO w f b n s V x bx (pa') (pn + 1) (pc') (vs ++ [y]) [] (.int .i64 (y : Nat)) c7 c8 c9 ds 0 undef a D) fun _ _ _ => False) a W := by
  have hs := S.fs.small
  have y0 := S.fs.fb.cell (i := 0) rfl
  have o0 := S.one.cell
  have bxn : (x : Int) < (n : Int) + 1 := by omega
  have hsz := S.fr.size
  have HS := Lib.hid S
  clear S
  rw [ha]
  clear ha
  generalize gOf a = gg
  unfold SF
  conv => arg 2; whnf
  go_wp2_with (at_builtin; refine wpAppAt E3 HS.out.path (by omega) (by omega) hsz (u := .int .i64 (y : Nat)) rfl rfl rfl ?_; intro a5 c5 w5 own5 fr5 at5; replace own5 := Lib.hid own5; replace fr5 := Lib.hid fr5)
  refine (show ∃ pa' pc', SO w f b n s V x bx (pa') (pn + 1) (pc') (vs ++ [y]) [] (.int .i64 (y : Nat)) c7 c8 c9 ds 0 undef _ _ from ⟨_, _, rfl, fun h => absurd rfl h, HS.out.app own5.out fr5.out at5⟩)

set_option maxRecDepth 100000 in
set_option maxHeartbeats 1000000 in
theorem spl_r9 {w W : World} {f b n : Nat} {s : Int} {V : K.Vs} {x bx : Nat} {pa : Option Addr} {pn pc : Nat} {vs Ds : List Nat} {c5 c7 c8 c9 : Value} {ds : List Deferred} {a : Act} (ha : a = SF f x (.pointer (some ⟨bx, 0, none⟩)) (.slice pa pn pc) c5 c7 c8 c9 ds (gOf a)) (S : SS w W f b n s V bx pa pn pc vs Ds) (hx : x ≤ n) (g : GV n V) :
    (rg53 9).wp Try.prog (Exit.then (SO w f b n s V x bx pa pn pc vs Ds c5 c7 c8 c9 ds (39) (.bool (!K.topB V x))) fun _ _ _ => False) a W := by
  have hs := S.fs.small
  have y0 := S.fs.fb.cell (i := 0) rfl
  have o0 := S.one.cell
  have bxn : (x : Int) < (n : Int) + 1 := by omega
  have HS := Lib.hid S
  clear S
  rw [ha]
  clear ha
  generalize gOf a = gg
  unfold SF
  conv => arg 2; whnf
  go_wp2_with (go_at_call 63; refine (top_any _ HS.out.fs g hx).mono ?_; rintro e w1 ⟨rfl, rfl⟩)
  refine (show SO w f b n s V x bx pa pn pc vs Ds c5 c7 c8 c9 ds (39) (.bool (!K.topB V x)) _ _ from ⟨rfl, fun _ => rfl, HS.out⟩)

set_option maxRecDepth 100000 in
set_option maxHeartbeats 1000000 in
theorem spl_r10 {w W : World} {f b n : Nat} {s : Int} {V : K.Vs} {x bx : Nat} {pa : Option Addr} {pn pc : Nat} {vs Ds : List Nat} {c5 c7 c8 c9 : Value} {ds : List Deferred} {a : Act} (ha : a = SF f x (.pointer (some ⟨bx, 0, none⟩)) (.slice pa pn pc) c5 c7 c8 c9 ds (gOf a)) (S : SS w W f b n s V bx pa pn pc vs Ds) (hx : x ≤ n) :
    (rg53 10).wp Try.prog (Exit.then (SO w f b n s V x bx pa pn pc vs Ds c5 c7 (.int .i64 ((V x).up : Nat)) c9 ds 0 undef) fun _ _ _ => False) a W := by
  have hs := S.fs.small
  have y0 := S.fs.fb.cell (i := 0) rfl
  have o0 := S.one.cell
  have bxn : (x : Int) < (n : Int) + 1 := by omega
  have y1 := S.fs.c0 hx
  have HS := Lib.hid S
  clear S
  rw [ha]
  clear ha
  generalize gOf a = gg
  unfold SF
  conv => arg 2; whnf
  go_wp2_with fail
  refine (show SO w f b n s V x bx pa pn pc vs Ds c5 c7 (.int .i64 ((V x).up : Nat)) c9 ds 0 undef _ _ from ⟨rfl, fun h => absurd rfl h, HS.out⟩)

set_option maxRecDepth 100000 in
set_option maxHeartbeats 1000000 in
theorem spl_r11 {w W : World} {f b n : Nat} {s : Int} {V : K.Vs} {x bx : Nat} {pa : Option Addr} {pn pc : Nat} {vs Ds : List Nat} {c5 c7 c9 : Value} {ds : List Deferred} {p : Nat} {a : Act} (ha : a = SF f x (.pointer (some ⟨bx, 0, none⟩)) (.slice pa pn pc) c5 c7 (.int .i64 (p : Nat)) c9 ds (gOf a)) (S : SS w W f b n s V bx pa pn pc vs Ds) (hx : x ≤ n) (hp : p ≤ n) (g : GV n V) :
    (rg53 11).wp Try.prog (Exit.then (SO w f b n s V x bx pa pn pc vs Ds c5 c7 (.int .i64 (p : Nat)) c9 ds (51) (.bool (!K.topB V p))) fun _ _ _ => False) a W := by
  have hs := S.fs.small
  have y0 := S.fs.fb.cell (i := 0) rfl
  have o0 := S.one.cell
  have bxn : (x : Int) < (n : Int) + 1 := by omega
  have HS := Lib.hid S
  clear S
  rw [ha]
  clear ha
  generalize gOf a = gg
  unfold SF
  conv => arg 2; whnf
  go_wp2_with (go_at_call 63; refine (top_any _ HS.out.fs g hp).mono ?_; rintro e w1 ⟨rfl, rfl⟩)
  refine (show SO w f b n s V x bx pa pn pc vs Ds c5 c7 (.int .i64 (p : Nat)) c9 ds (51) (.bool (!K.topB V p)) _ _ from ⟨rfl, fun _ => rfl, HS.out⟩)

set_option maxRecDepth 100000 in
set_option maxHeartbeats 1000000 in
theorem spl_r12 {w W : World} {f b n : Nat} {s : Int} {V : K.Vs} {x bx : Nat} {pa : Option Addr} {pn pc : Nat} {vs Ds : List Nat} {c5 c7 c9 : Value} {ds : List Deferred} {p : Nat} {a : Act} (ha : a = SF f x (.pointer (some ⟨bx, 0, none⟩)) (.slice pa pn pc) c5 c7 (.int .i64 (p : Nat)) c9 ds (gOf a)) (S : SS w W f b n s V bx pa pn pc vs Ds) (hx : x ≤ n) (hp : p ≤ n) :
    (rg53 12).wp Try.prog (Exit.then (SO w f b n s V x bx pa pn pc vs Ds c5 c7 (.int .i64 (p : Nat)) (.int .i64 ((V p).up : Nat)) ds 0 undef) fun _ _ _ => False) a W := by
  have hs := S.fs.small
  have y0 := S.fs.fb.cell (i := 0) rfl
  have o0 := S.one.cell
  have bxn : (x : Int) < (n : Int) + 1 := by omega
  have y1 := S.fs.c0 hp
  have bpn : (p : Int) < (n : Int) + 1 := by omega
  have HS := Lib.hid S
  clear S
  rw [ha]
  clear ha
  generalize gOf a = gg
  unfold SF
  conv => arg 2; whnf
  go_wp2_with fail
  refine (show SO w f b n s V x bx pa pn pc vs Ds c5 c7 (.int .i64 (p : Nat)) (.int .i64 ((V p).up : Nat)) ds 0 undef _ _ from ⟨rfl, fun h => absurd rfl h, HS.out⟩)

set_option maxRecDepth 100000 in
set_option maxHeartbeats 1000000 in
theorem spl_r13 {w W : World} {f b n : Nat} {s : Int} {V : K.Vs} {x bx : Nat} {pa : Option Addr} {pn pc : Nat} {vs Ds : List Nat} {c5 c7 : Value} {ds : List Deferred} {p q : Nat} {a : Act} (ha : a = SF f x (.pointer (some ⟨bx, 0, none⟩)) (.slice pa pn pc) c5 c7 (.int .i64 (p : Nat)) (.int .i64 (q : Nat)) ds (gOf a)) (S : SS w W f b n s V bx pa pn pc vs Ds) (hx : x ≤ n) (hp : p ≤ n) (hq : q ≤ n) :
    (rg53 13).wp Try.prog (Exit.then (SO w f b n s V x bx pa pn pc vs Ds c5 c7 (.int .i64 (p : Nat)) (.int .i64 (q : Nat)) ds (80) (.bool (decide ((V p).left = x) == decide ((V q).left = p)))) fun _ _ _ => False) a W := by
  have hs := S.fs.small
  have y0 := S.fs.fb.cell (i := 0) rfl
  have o0 := S.one.cell
  have bxn : (x : Int) < (n : Int) + 1 := by omega
  have y1 := S.fs.c1 hp
  have bpn : (p : Int) < (n : Int) + 1 := by omega
  have y2 := S.fs.c1 hq
  have bqn : (q : Int) < (n : Int) + 1 := by omega
  have HS := Lib.hid S
  clear S
  rw [ha]
  clear ha
  generalize gOf a = gg
  unfold SF
  conv => arg 2; whnf
  go_quiet (fail)
  refine (show SO w f b n s V x bx pa pn pc vs Ds c5 c7 (.int .i64 (p : Nat)) (.int .i64 (q : Nat)) ds (80) (.bool (decide ((V p).left = x) == decide ((V q).left = p))) _ _ from ⟨rfl, fun _ => ?_, HS.out.drewN _⟩)
  unfold gOf
  simp
  rw [nat_beq, nat_beq]

set_option maxRecDepth 100000 in
set_option maxHeartbeats 1000000 in
theorem spl_r14 {w W : World} {f b n : Nat} {s : Int} {V : K.Vs} {x bx : Nat} {pa : Option Addr} {pn pc : Nat} {vs Ds : List Nat} {c5 c7 c9 : Value} {ds : List Deferred} {p : Nat} {a : Act} (ha : a = SF f x (.pointer (some ⟨bx, 0, none⟩)) (.slice pa pn pc) c5 c7 (.int .i64 (p : Nat)) c9 ds (gOf a)) (S : SS w W f b n s V bx pa pn pc vs Ds) (hx : x ≤ n) (hp : p ≤ n) (g : GV n V) (g' : GV n (K.rotF V p)) (ht : K.topB V p = false) (hs1 : -4611686018427387904 ≤ s) (hs2 : s ≤ 4611686018427387904) :
    (rg53 14).wp Try.prog (Exit.then (SO w f b n (s + 1) (K.rotF V p) x bx pa pn pc vs Ds c5 c7 (.int .i64 (p : Nat)) c9 ds 0 undef) fun _ _ _ => False) a W := by
  have hs := S.fs.small
  have y0 := S.fs.fb.cell (i := 0) rfl
  have o0 := S.one.cell
  have bxn : (x : Int) < (n : Int) + 1 := by omega
  have HS := Lib.hid S
  clear S
  rw [ha]
  clear ha
  generalize gOf a = gg
  unfold SF
  conv => arg 2; whnf
  go_wp2_with (go_at_call 65; refine (rotate_any _ HS.out.fs g hp g' ht hs1 hs2).mono ?_; rintro e w1 ⟨rfl, hw1, F1⟩; replace hw1 := Lib.hid hw1; replace F1 := Lib.hid F1)
  refine (show SO w f b n (s + 1) (K.rotF V p) x bx pa pn pc vs Ds c5 c7 (.int .i64 (p : Nat)) c9 ds 0 undef _ _ from ⟨rfl, fun h => absurd rfl h, HS.out.on hw1.out F1.out⟩)

set_option maxRecDepth 100000 in
set_option maxHeartbeats 1000000 in
theorem spl_r15 {w W : World} {f b n : Nat} {s : Int} {V : K.Vs} {x bx : Nat} {pa : Option Addr} {pn pc : Nat} {vs Ds : List Nat} {c5 c7 c8 c9 : Value} {ds : List Deferred} {a : Act} (ha : a = SF f x (.pointer (some ⟨bx, 0, none⟩)) (.slice pa pn pc) c5 c7 c8 c9 ds (gOf a)) (S : SS w W f b n s V bx pa pn pc vs Ds) (hx : x ≤ n) (g : GV n V) (g' : GV n (K.rotF V x)) (ht : K.topB V x = false) (hs1 : -4611686018427387904 ≤ s) (hs2 : s ≤ 4611686018427387904) :
    (rg53 15).wp Try.prog (Exit.then (SO w f b n (s + 1) (K.rotF V x) x bx pa pn pc vs Ds c5 c7 c8 c9 ds 0 undef) fun _ _ _ => False) a W := by
  have hs := S.fs.small
  have y0 := S.fs.fb.cell (i := 0) rfl
  have o0 := S.one.cell
  have bxn : (x : Int) < (n : Int) + 1 := by omega
  have HS := Lib.hid S
  clear S
  rw [ha]
  clear ha
  generalize gOf a = gg
  unfold SF
  conv => arg 2; whnf
  go_wp2_with (go_at_call 65; refine (rotate_any _ HS.out.fs g hx g' ht hs1 hs2).mono ?_; rintro e w1 ⟨rfl, hw1, F1⟩; replace hw1 := Lib.hid hw1; replace F1 := Lib.hid F1)
  refine (show SO w f b n (s + 1) (K.rotF V x) x bx pa pn pc vs Ds c5 c7 c8 c9 ds 0 undef _ _ from ⟨rfl, fun h => absurd rfl h, HS.out.on hw1.out F1.out⟩)

set_option maxRecDepth 100000 in
set_option maxHeartbeats 1000000 in
theorem spl_r16 {w W : World} {f b n : Nat} {s : Int} {V : K.Vs} {x bx : Nat} {pa : Option Addr} {pn pc : Nat} {vs Ds : List Nat} {c5 c7 c8 c9 : Value} {ds : List Deferred} {a : Act} (ha : a = SF f x (.pointer (some ⟨bx, 0, none⟩)) (.slice pa pn pc) c5 c7 c8 c9 ds (gOf a)) (S : SS w W f b n s V bx pa pn pc vs Ds) (hx : x ≤ n) (g : GV n V) (g' : GV n (K.rotF V x)) (ht : K.topB V x = false) (hs1 : -4611686018427387904 ≤ s) (hs2 : s ≤ 4611686018427387904) :
    (rg53 16).wp Try.prog (Exit.then (SO w f b n (s + 1) (K.rotF V x) x bx pa pn pc vs Ds c5 c7 c8 c9 ds 0 undef) fun _ _ _ => False) a W := by
  have hs := S.fs.small
  have y0 := S.fs.fb.cell (i := 0) rfl
  have o0 := S.one.cell
  have bxn : (x : Int) < (n : Int) + 1 := by omega
  have HS := Lib.hid S
  clear S
  rw [ha]
  clear ha
  generalize gOf a = gg
  unfold SF
  conv => arg 2; whnf
  go_wp2_with (go_at_call 65; refine (rotate_any _ HS.out.fs g hx g' ht hs1 hs2).mono ?_; rintro e w1 ⟨rfl, hw1, F1⟩; replace hw1 := Lib.hid hw1; replace F1 := Lib.hid F1)
  refine (show SO w f b n (s + 1) (K.rotF V x) x bx pa pn pc vs Ds c5 c7 c8 c9 ds 0 undef _ _ from ⟨rfl, fun h => absurd rfl h, HS.out.on hw1.out F1.out⟩)
end Go.Proofs.Ytfeokafjehpgnaa
