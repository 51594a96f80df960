/- The walk of TreelayoutSearches. -/
import Derived.Test.YtdllpiekkbojgaaS5
import Derived.Test.YtdllpiekkbojgaaR4
namespace Go.Proofs.Ytdllpiekkbojgaa
open Go.RowKit Go.Maps

abbrev RetT (w : World) (e : Ending) (w' : World) : Prop := e = .returned (.bool true) ∧ Fr F0 w w'

set_option maxHeartbeats 1000000 in
theorem LSrch_long (kind key size : Int) (a1 a2 : Option Addr) (n m c1 c2 : Nat) (keys tree : List Int) (w : World) (hk : Rd w a1 n (ints keys)) (ht : Rd w a2 m (ints tree)) (h : 300 < n ∨ 300 < m) :
    Calls Try.prog 6 #[.int .i64 kind, .slice a1 n c1, .slice a2 m c2, .int .i64 key, .int .i64 size] w (RetT w) := by
  have hm1 := hk.max
  have hm2 := ht.max
  by_cases h1 : 300 < n
  · go_enter Try.func6, Try.ntmps6
    go_wp2_with fail
    refine (awake_any _).mono ?_; rintro e w1 ⟨rfl, F1⟩
    go_wp2_with fail
    go_ret
    exact ⟨rfl, F1⟩
  · have h2 : 300 < m := by omega
    go_enter Try.func6, Try.ntmps6
    go_wp2_with fail
    refine (awake_any _).mono ?_; rintro e w1 ⟨rfl, F1⟩
    go_wp2_with fail
    go_ret
    exact ⟨rfl, F1⟩

set_option maxHeartbeats 1000000 in
theorem LSrch_kind (kind key size : Int) (a1 a2 : Option Addr) (n m c1 c2 : Nat) (keys tree : List Int) (w : World) (hk : Rd w a1 n (ints keys)) (ht : Rd w a2 m (ints tree)) (h1 : n ≤ 300) (h2 : m ≤ 300)
    (hk : kind < 1 ∨ 4 < kind) :
    Calls Try.prog 6 #[.int .i64 kind, .slice a1 n c1, .slice a2 m c2, .int .i64 key, .int .i64 size] w (RetT w) := by
  have hg : givenB kind 1 size = false := by simp [givenB]; omega
  have hk2 : ¬ (1 ≤ kind ∧ kind ≤ 4) := by omega
  by_cases hk1 : kind < 1
  all_goals
    go_enter Try.func6, Try.ntmps6
    go_wp2_with fail
    refine (awake_any _).mono ?_; rintro e w1 ⟨rfl, F1⟩
    go_wp2_with fail
    refine (Build_kind kind a1 n c1 _ (by omega)).mono ?_; rintro e w2 ⟨rfl, rfl⟩
    go_wp2_with fail
    refine (Search_bad kind key size a2 m c2 _ hg).mono ?_; rintro e w2 ⟨rfl, rfl⟩
    go_wp2_with fail
    go_ret
    exact ⟨rfl, F1⟩

def BP (bl : List Int) (be : Int) (w : World) (e : Ending) (w' : World) : Prop := ∃ a n c, e = .returned (.tuple #[.slice a n c, .int .i64 be]) ∧ Rd w' a n (ints bl) ∧ Fr F0 w w'
def SP (p n er : Int) (w : World) (e : Ending) (w' : World) : Prop := e = .returned (.tuple #[.int .i64 p, .int .i64 n, .int .i64 er]) ∧ Fr F0 w w'
theorem BuildPost.bp {kind : Int} {keys bl : List Int} {be : Int} (h : buildV kind keys = (bl, be)) {w w' : World} {e : Ending} (hp : BuildPost kind keys w e w') : BP bl be w e w' := by
  obtain ⟨a, n, c, h1, h2, h3⟩ := hp
  rw [h] at h1 h2
  exact ⟨a, n, c, h1, h2.rd, h3⟩

set_option maxHeartbeats 2000000 in
theorem LSrch_in (kind key size : Int) (a1 a2 : Option Addr) (n m c1 c2 : Nat) (keys tree : List Int) (w : World) (hk : Rd w a1 n (ints keys)) (ht : Rd w a2 m (ints tree)) (h1 : n ≤ 300) (h2 : m ≤ 300)
    (hk1 : 1 ≤ kind) (hk2 : kind ≤ 4) :
    Calls Try.prog 6 #[.int .i64 kind, .slice a1 n c1, .slice a2 m c2, .int .i64 key, .int .i64 size] w (RetT w) := by
  obtain ⟨bl, be, hb⟩ : ∃ bl be, buildV kind keys = (bl, be) := ⟨_, _, rfl⟩
  have CB : ∀ w', Rd w' a1 n (ints keys) → Calls Try.prog 27 #[.int .i64 kind, .slice a1 n c1] w' (BP bl be w') := fun w' h => (Build_any kind a1 n c1 keys w' h h1 hk1 hk2).mono fun _ _ hp => hp.bp hb
  have CR : ∀ w', Rd w' a1 n (ints keys) → Calls Try.prog 29 #[.int .i64 kind, .slice a1 n c1] w' (BP bl be w') := fun w' h => (refBuild_any kind a1 n c1 keys w' h h1 hk1 hk2).mono fun _ _ hp => hp.bp hb
  replace CB := Lib.hid CB
  replace CR := Lib.hid CR
  clear hb
  by_cases hs : size < 1
  · have hg : givenB kind 1 size = false := by simp [givenB]; omega
    go_enter Try.func6, Try.ntmps6
    go_wp2_with fail
    refine (awake_any _).mono ?_; rintro e w1 ⟨rfl, F1⟩
    go_wp2_with fail
    refine (CB.out _ (hk.fr0 F1)).mono ?_; rintro e w2 ⟨a3, n3, c3, rfl, R3, F3⟩
    have F := F1.trans0 F3
    clear F1 F3
    go_wp2_with fail
    refine (Search_bad kind key size a2 m c2 _ hg).mono ?_; rintro e w4 ⟨rfl, rfl⟩
    go_wp2_with fail
    refine (CR.out _ (hk.fr0 F)).mono ?_; rintro e w4 ⟨a4, n4, c4, rfl, R4, F4⟩
    replace R3 := R3.fr0 F4
    replace F := F.trans0 F4
    clear F4
    go_wp2_with fail
    refine (Equal_any _ _ _ _ _ _ _ _ _ R3 R4).mono ?_; rintro e w5 ⟨rfl, q, rfl⟩
    rw [show decide (bl = bl) = true by simp]
    clear R3 R4
    go_wp2_with fail
    go_ret
    exact ⟨rfl, F.drewN q⟩
  · have hs' : 1 ≤ size := by omega
    obtain ⟨p, nb, er, hsv⟩ : ∃ p nb er, searchV kind tree key size = (p, nb, er) := ⟨_, _, _, rfl⟩
    have CS : ∀ w', Rd w' a2 m (ints tree) → Calls Try.prog 28 #[.int .i64 kind, .slice a2 m c2, .int .i64 key, .int .i64 size] w' (SP p nb er w') := fun w' h => (Search_any kind key size a2 m c2 tree w' h h2 hk1 hk2 hs').mono fun _ _ hp => by
      unfold SearchPost at hp; rw [hsv] at hp; exact hp
    have CT : ∀ w', Rd w' a2 m (ints tree) → Calls Try.prog 30 #[.int .i64 kind, .slice a2 m c2, .int .i64 key, .int .i64 size] w' (SP p nb er w') := fun w' h => (refSearch_any kind key size a2 m c2 tree w' h h2 hk1 hk2 hs').mono fun _ _ hp => by
      unfold SearchPost at hp; rw [hsv] at hp; exact hp
    replace CS := Lib.hid CS
    replace CT := Lib.hid CT
    clear hsv
    go_enter Try.func6, Try.ntmps6
    go_wp2_with fail
    refine (awake_any _).mono ?_; rintro e w1 ⟨rfl, F1⟩
    go_wp2_with fail
    refine (CB.out _ (hk.fr0 F1)).mono ?_; rintro e w2 ⟨a3, n3, c3, rfl, R3, F3⟩
    have F := F1.trans0 F3
    clear F1 F3
    go_wp2_with fail
    refine (CS.out _ (ht.fr0 F)).mono ?_; rintro e w4 ⟨rfl, F4⟩
    replace R3 := R3.fr0 F4
    replace F := F.trans0 F4
    clear F4
    go_wp2_with fail
    refine (CR.out _ (hk.fr0 F)).mono ?_; rintro e w4 ⟨a4, n4, c4, rfl, R4, F4⟩
    replace R3 := R3.fr0 F4
    replace F := F.trans0 F4
    clear F4
    go_wp2_with fail
    refine (Equal_any _ _ _ _ _ _ _ _ _ R3 R4).mono ?_; rintro e w5 ⟨rfl, q, rfl⟩
    rw [show decide (bl = bl) = true by simp]
    replace F := F.drewN q
    clear R3 R4
    go_wp2_with fail
    refine (CT.out _ (ht.fr0 F)).mono ?_; rintro e w6 ⟨rfl, F6⟩
    go_wp2_with fail
    go_ret
    exact ⟨rfl, F.trans0 F6⟩

theorem LSrch_any (kind : Int) (a1 : Option Addr) (n c1 : Nat) (keys : List Int) (a2 : Option Addr) (m c2 : Nat) (tree : List Int) (key size : Int) (w : World) (hk : ArgInts w a1 n keys) (ht : ArgInts w a2 m tree) :
    Calls Try.prog 6 #[.int .i64 kind, .slice a1 n c1, .slice a2 m c2, .int .i64 key, .int .i64 size] w (RetT w) := by
  by_cases h : 300 < n ∨ 300 < m
  · exact LSrch_long kind key size a1 a2 n m c1 c2 keys tree w hk.rd ht.rd h
  · by_cases hkd : kind < 1 ∨ 4 < kind
    · exact LSrch_kind kind key size a1 a2 n m c1 c2 keys tree w hk.rd ht.rd (by omega) (by omega) hkd
    · exact LSrch_in kind key size a1 a2 n m c1 c2 keys tree w hk.rd ht.rd (by omega) (by omega) (by omega) (by omega)

end Go.Proofs.Ytdllpiekkbojgaa
