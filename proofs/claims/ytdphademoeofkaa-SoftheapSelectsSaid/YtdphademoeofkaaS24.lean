/- Current, Items, Corrupted, the reference's Most. -/
import Derived.Test.YtdphademoeofkaaS23
namespace Go.Proofs.Ytdphademoeofkaa
open Go.RowKit
attribute [local go_sem ↓] Go.wp_at_zero Go.wp_at_succ
/-- Where an item is, and its key there. -/
theorem node_at {w : World} {I : List (Option Nat)} {i k : Int} : ∀ {t : Tr} {N : Nat → Prop}, TM w t N → Pl I t → (i, k) ∈ t.curs → ∃ b, I[i.toNat]? = some (some b) ∧ w.cell? ⟨b, 3, none⟩ = some (.int .i64 k)
  | .nd b l r it key rk sz, N, h, hP, hi => by
    obtain ⟨a, n, c, Nl, Nr, X⟩ := h
    simp only [Tr.curs, List.mem_append] at hi
    rcases hi with hi | hi | hi
    · obtain ⟨j, hj, e⟩ := List.mem_map.1 hi
      cases e
      exact ⟨b, hP.1 i hj, X.blk.cell (i := 3) rfl⟩
    · exact node_at X.left hP.2.1 hi
    · exact node_at X.right hP.2.2 hi
/-- What one sees of a heap. -/
structure Vw (w : World) (hb rate : Nat) (ts : List Tr) (own : List Int) (I : List (Option Nat)) (ao : Option Addr) (co : Nat) (ai : Option Addr) (ci : Nat) : Prop where
  c2 : w.cell? ⟨hb, 2, none⟩ = some (.slice ao own.length co)
  c3 : w.cell? ⟨hb, 3, none⟩ = some (.slice ai I.length ci)
  ro : Rd w ao own.length (ints own)
  ri : Rd w ai I.length (ptrs I)
  no : ∀ ks : List Int, ∀ r, SX r ks ts [] I → ∀ i k, (i, k) ∈ cf ts → ∃ b, I[i.toNat]? = some (some b) ∧ w.cell? ⟨b, 3, none⟩ = some (.int .i64 k)
theorem Hp.vw {w : World} {hb rate : Nat} {ts : List Tr} {own : List Int} {I : List (Option Nat)} {T : Nat → Prop} (h : Hp w hb rate ts own I T) : ∃ ao co ai ci, Vw w hb rate ts own I ao co ai ci := by
  obtain ⟨at_, ct, ao, co, ai, ci, Nt, h1, h2, h3⟩ := h
  refine ⟨ao, co, ai, ci, h1.blk.cell (i := 2) rfl, h1.blk.cell (i := 3) rfl, h1.oo.rd, h1.oi.rd, fun ks r S i k hi => ?_⟩
  obtain ⟨t, ht, hi⟩ := List.mem_flatMap.1 hi
  obtain ⟨j, hj⟩ := List.mem_iff_getElem?.1 ht
  exact node_at (h1.tm j t hj) (S.pl t ht) hi
theorem Hp.ilen {w : World} {hb rate : Nat} {ts : List Tr} {own : List Int} {I : List (Option Nat)} {T : Nat → Prop} (h : Hp w hb rate ts own I T) : I.length = own.length ∧ own.length ≤ 2000 ∧ wts ts ≤ own.length ∧ rate ≤ 20 := by
  obtain ⟨at_, ct, ao, co, ai, ci, Nt, h1, h2, h3⟩ := h
  have := h2.wt
  exact ⟨h1.len, h2.m2, by simpa [wts] using this, h3.1⟩
theorem Current_in {w : World} {hb rate : Nat} {ts : List Tr} {own ks : List Int} {I : List (Option Nat)} {T : Nat → Prop} {r : Nat} (h : Hp w hb rate ts own I T) (S : SX r ks ts [] I) {i : Nat} {k : Int} (hi : ((i : Int), k) ∈ cf ts) :
    Calls Try.prog 14 #[.pointer (some ⟨hb, 0, none⟩), .int .i64 i] w fun e w' => e = .returned (.tuple #[.int .i64 k, .int .i64 0]) ∧ w = w' := by
  obtain ⟨hl, h2, _⟩ := h.ilen
  obtain ⟨ao, co, ai, ci, V⟩ := h.vw
  obtain ⟨b, h3, h4⟩ := V.no ks r S _ _ hi
  rw [Int.toNat_natCast] at h3
  have hlt := (List.getElem?_eq_some_iff.1 h3).1
  have y3 := V.c3
  obtain ⟨g, o, rfl, hc⟩ := V.ri.cells (by omega)
  have c1 := hc i (.pointer (some ⟨b, 0, none⟩)) (by rw [List.getElem?_map, h3]; rfl)
  generalize I.length = m at *
  have d1 : decide ((m : Int) ≤ (i : Int)) = false := decide_eq_false (by omega)
  clear h S hi V h3 hc
  go_enter Try.func14, Try.ntmps14
  go_wp2_with fail
  go_ret2
  exact ⟨rfl, rfl⟩
theorem Current_out {w : World} {hb rate : Nat} {ts : List Tr} {own : List Int} {I : List (Option Nat)} {T : Nat → Prop} (h : Hp w hb rate ts own I T) {i : Nat} (hi : I[i]? = some none) :
    Calls Try.prog 14 #[.pointer (some ⟨hb, 0, none⟩), .int .i64 i] w fun e w' => e = .returned (.tuple #[.int .i64 0, .int .i64 12]) ∧ w = w' := by
  obtain ⟨hl, h2, _⟩ := h.ilen
  obtain ⟨ao, co, ai, ci, V⟩ := h.vw
  have hlt := (List.getElem?_eq_some_iff.1 hi).1
  have y3 := V.c3
  obtain ⟨g, o, rfl, hc⟩ := V.ri.cells (by omega)
  have c1 := hc i (.pointer none) (by rw [List.getElem?_map, hi]; rfl)
  generalize I.length = m at *
  have d1 : decide ((m : Int) ≤ (i : Int)) = false := decide_eq_false (by omega)
  clear h hi V hc
  go_enter Try.func14, Try.ntmps14
  go_wp2_with fail
  go_ret2
  exact ⟨rfl, rfl⟩
set_option maxHeartbeats 2000000 in
theorem Items_any {w : World} {hb rate : Nat} {ts : List Tr} {own : List Int} {I : List (Option Nat)} {T : Nat → Prop} (h : Hp w hb rate ts own I T) :
    Calls Try.prog 17 #[.pointer (some ⟨hb, 0, none⟩)] w fun e w' => ∃ a c, e = .returned (.slice a (itl 0 I).length c) ∧ Own w' w.heap.size 3 a (itl 0 I).length c (ints (itl 0 I)) ∧ Fr F0 w w' := by
  obtain ⟨hl, h2, _⟩ := h.ilen
  obtain ⟨ao, co, ai, ci, V⟩ := h.vw
  have y3 := V.c3
  have HR := Lib.hid V.ri
  obtain ⟨m, hm⟩ : ∃ m, m = I.length := ⟨_, rfl⟩
  have Hm := Lib.hid hm
  rw [← hm] at y3 hl
  have hm2 : m ≤ 2000 := by omega
  have hlT := Lib.hid (h.lt)
  clear h V hm hl h2
  go_enter Try.func17, Try.ntmps17
  go_wp2_with fail
  go_loopw [13, 3] (fun i s3 wr => ∃ k : Nat, k ≤ m ∧ i = .int .i64 k ∧ Hid (∃ a c, s3 = .slice a (itl 0 (I.take k)).length c ∧ Own wr w.heap.size 3 a (itl 0 (I.take k)).length c (ints (itl 0 (I.take k))) ∧ Fr F0 w wr)) (fun i _ _ => m - (intOf i).toNat)
  case atStart => exact ⟨0, by omega, rfl, Lib.hid ⟨none, 0, rfl, Own.nil _ _ _, Fr.refl _ _⟩⟩
  case round =>
    obtain ⟨k, hk, rfl, HH⟩ := hrel
    by_cases hlt : k < m
    · obtain ⟨a, c, rfl, O, F⟩ := HH.out
      have hkI : k < I.length := by rw [← Hm.out]; exact hlt
      obtain ⟨g, o, rfl, hc⟩ := (HR.out.fr0 F).cells (by omega)
      have c1 := hc k _ (by rw [List.getElem?_map, List.getElem?_eq_getElem hkI]; rfl)
      have ek : (I.take k).length = k := by simp; omega
      have hle : (itl 0 (I.take k)).length ≤ 2000 := by
        have := nodup_bound k (itl 0 (I.take k)) (itl_nodup _ _) (fun i hi => by
          obtain ⟨j, b, h1, h2⟩ := itl_mem.1 hi
          have := (List.getElem?_eq_some_iff.1 h1).1
          omega)
        omega
      have HF := Lib.hid F
      have hsz := F.size
      cases hI : I[k] with
      | none =>
        rw [hI] at c1
        have e1 : I.take (k + 1) = I.take k ++ [none] := by rw [← List.take_append_getElem hkI, hI]
        have HE := Lib.hid e1
        have HO := Lib.hid O
        clear hc O F e1 ek hI
        generalize hM : (itl 0 (I.take k)).length = M at *
        have HM := Lib.hid hM
        clear hM
        go_wp2_with fail
        go_round
        case rel => exact ⟨k + 1, by omega, by go_num, Lib.hid ⟨a, c, by rw [HE.out, itl_none, HM.out], by rw [HE.out, itl_none, HM.out]; exact HO.out, HF.out⟩⟩
        case measure => simp [intOf]; omega
      | some b =>
        rw [hI] at c1
        have e1 : I.take (k + 1) = I.take k ++ [some b] := by rw [← List.take_append_getElem hkI, hI]
        have HE := Lib.hid e1
        have HO := Lib.hid O
        have Hek := Lib.hid ek
        clear hc O F e1 ek hI
        generalize hM : (itl 0 (I.take k)).length = M at *
        have HM := Lib.hid hM
        clear hM
        go_wp2_with ((at_builtin; refine wpAppAt E3 HO.out (by omega) (by omega) (by omega) (u := .int .i64 k) rfl rfl (by first | rfl | (simp; done) | (simp; rfl)) ?_; intro a6 c6 w6 own6 fr6 at6; have O6 := Lib.hid own6; have F6 := Lib.hid fr6; clear own6 fr6 at6))
        go_roundw
        case rel =>
          refine ⟨k + 1, by omega, by go_num, Lib.hid ⟨a6, c6, ?_, ?_, HF.out.trans F6.out (fun q hq e => by have := (HO.out.blk q e).1; omega)⟩⟩
          · rw [HE.out, itl_some, List.length_append, HM.out]; rfl
          · rw [HE.out, itl_some, List.length_append, HM.out, Hek.out, Nat.zero_add]
            simpa using O6.out
        case measure => simp [intOf]; omega
    · obtain rfl : m = k := by omega
      obtain ⟨a, c, rfl, O, F⟩ := HH.out
      rw [List.take_of_length_le (by rw [Hm.out]; exact Nat.le_refl _)] at O
      have HO := Lib.hid O
      have HF := Lib.hid F
      clear O F
      go_wp2_with fail
      go_ret
      rw [List.take_of_length_le (by rw [Hm.out]; exact Nat.le_refl _)]
      exact ⟨a, c, rfl, HO.out, HF.out⟩
end Go.Proofs.Ytdphademoeofkaa
