/- Buffer trees: marks; the closure of Get. -/
import Derived.Test.YtkmnnfflibamnaaG24
import Derived.Test.YtkmnnfflibamnaaG212
import Derived.Test.YtkmnnfflibamnaaH568
import Derived.Stop.RegionWithIn
namespace Go.Proofs.Ytkmnnfflibamnaa
open Go.RowKit
/-- Some marks of ranges that have come to their ends. -/
structure MK (w : World) (B : Nat) (ds : List Deferred) : Prop where
  all : ∀ d ∈ ds, ∃ r, d = { target := .collected r, args := #[] } ∧ B ≤ r ∧ w.heap[r]? = some (.deferred (some []))
  nd : ds.Pairwise (· ≠ ·)
theorem MK.nil (w : World) (B : Nat) : MK w B [] := ⟨fun d h => (by cases h), List.Pairwise.nil⟩
theorem MK.fr {S : Nat → Prop} {w w' : World} {B : Nat} {ds : List Deferred} (h : MK w B ds) (F : Fr S w w') (hS : ∀ r, B ≤ r → w.heap[r]? = some (.deferred (some [])) → ¬ S r) : MK w' B ds :=
  ⟨fun d hd => by obtain ⟨r, e, hb, hr⟩ := h.all d hd; exact ⟨r, e, hb, (F.block r (lt_of_block hr) (hS r hb hr)).trans hr⟩, h.nd⟩
theorem MK.cons {w : World} {B D : Nat} {ds : List Deferred} (h : MK w B ds) (hB : B ≤ D) (hD : w.heap[D]? = some (.deferred (some []))) (hn : { target := .collected D, args := #[] } ∉ ds) : MK w B ({ target := .collected D, args := #[] } :: ds) :=
  ⟨fun d hd => by
    rcases List.mem_cons.1 hd with rfl | hd
    · exact ⟨D, rfl, hB, hD⟩
    · exact h.all d hd, List.pairwise_cons.2 ⟨fun d hd e => hn (e ▸ hd), h.nd⟩⟩
theorem leaves_marks {F : Fence} {n : Nat} {P : Program} {fn : Func} {tmps : Array Value} {R : Ending → World → Prop} {B : Nat} : ∀ (ds : List Deferred) {w : World}, MK w B ds → (∀ w', Fr (fun k => B ≤ k ∧ w.heap[k]? = some (.deferred (some []))) w w' → LeavesIn F n P fn tmps R [] .returning w') → LeavesInM F n P fn tmps R ds .returning w
  | [], w, _, h => h w (Fr.refl _ _)
  | d :: ds, w, hm, h => by
    obtain ⟨r, rfl, hB, hr⟩ := hm.all d (List.mem_cons_self ..)
    refine ⟨by simp, .inl ⟨r, _, rfl, run_takeDeferred hr, ?_⟩⟩
    have F := Fr.putD w r (o := .deferred none)
    refine leaves_marks ds (B := B) ⟨fun d hd => ?_, (List.pairwise_cons.1 hm.nd).2⟩ (fun w' F' => ?_)
    · obtain ⟨r', rfl, hB', hr'⟩ := hm.all d (List.mem_cons_of_mem _ hd)
      refine ⟨r', rfl, hB', ?_⟩
      have hne := (List.pairwise_cons.1 hm.nd).1 _ hd
      exact (F.block r' (lt_of_block hr') (fun e => hne (by rw [e]))).trans hr'
    · refine h w' ((F.mono (fun k _ e => ?_)).trans F' (fun k hk e => ?_))
      · subst e; exact ⟨hB, hr⟩
      · refine ⟨e.1, ?_⟩
        by_cases c : k = r
        · subst c; exact hr
        · rw [← F.block k hk c]; exact e.2
theorem results_get {tmps : Array Value} {w : World} {br be : Nat} {v e : Int} (h4 : tmps.getD 4 undef = .pointer (some ⟨br, 0, none⟩)) (h5 : tmps.getD 5 undef = .pointer (some ⟨be, 0, none⟩)) (hr : One w br 3 (.int .i64 v)) (he : One w be 27 (.int .i64 e)) :
    (results Try.f29 tmps).run Try.prog w = .ok (.tuple #[.int .i64 v, .int .i64 e]) w := by
  have hr' := hr.cell
  have he' := he.cell
  rw [Array.getD_eq_getD_getElem?] at h4 h5
  simp [results, Try.results29, go_sem, h4, h5, hr', he']
section
attribute [local go_sem ↓] Go.wp_at_zero Go.wp_at_succ
theorem getCl_any (e : En) (w : World) : Calls Try.prog 58 #[env e] w fun r w' => r = .returned (.tuple #[.int .i64 (eVal (some e)).1, .int .i64 (eVal (some e)).2]) ∧ Fr F0 w w' := by
  obtain ⟨k, v, rm⟩ := e
  have FB : Hid (Fr F0 w (w.alloc (.cells #[.int .i64 k, .int .i64 v, .bool rm] 80))) := Lib.hid ((Fr.refl _ _).alloc _)
  cases rm
  · go_enter Try.func58, Try.ntmps58
    go_wp2_with fail
    go_ret2
    exact ⟨rfl, FB.out⟩
  · go_enter Try.func58, Try.ntmps58
    go_wp2_with fail
    go_ret2
    exact ⟨rfl, FB.out⟩
theorem Get_nil (k : Int) (w : World) : Calls Try.prog 29 #[.pointer none, .int .i64 k] w fun r w' => r = .returned (.tuple #[.int .i64 0, .int .i64 1]) ∧ Fr F0 w w' := by
  go_enter Try.func29, Try.ntmps29
  go_wp2_with fail
  have F4 : Fr F0 w ((((w.alloc (.cells #[.pointer none] 26)).alloc (.cells #[.int .i64 k] 3)).alloc (.cells #[.int .i64 0] 3)).alloc (.cells #[.int .i64 1] 27)) := ((((Fr.refl _ _).alloc _).alloc _).alloc _).alloc _
  have b4 := (One.new (w := (w.alloc (.cells #[.pointer none] 26)).alloc (.cells #[.int .i64 k] 3)) 3 (.int .i64 0)).alloc (.cells #[.int .i64 1] 27)
  have b5 := One.new (w := ((w.alloc (.cells #[.pointer none] 26)).alloc (.cells #[.int .i64 k] 3)).alloc (.cells #[.int .i64 0] 3)) 27 (.int .i64 1)
  simp only [size_alloc] at b4 b5
  exact bodyPost_ret (results_get rfl rfl b4 b5) rfl ⟨rfl, F4⟩
set_option maxRecDepth 100000 in
theorem Get_bad {t : Nat} (k : Int) (w : World) (h : inK k = false) : Calls Try.prog 29 #[.pointer (some ⟨t, 0, none⟩), .int .i64 k] w fun r w' => r = .returned (.tuple #[.int .i64 0, .int .i64 2]) ∧ Fr F0 w w' := by
  have HK := Lib.hid (fun w => key_any k w)
  unfold inK at h
  rw [h] at HK
  clear h
  go_enter Try.func29, Try.ntmps29
  go_wp2_with (go_at_call 57; refine (HK.out _).mono ?_; rintro r w1 ⟨rfl, rfl⟩)
  have F4 : Fr F0 w ((((w.alloc (.cells #[.pointer (some ⟨t, 0, none⟩)] 26)).alloc (.cells #[.int .i64 k] 3)).alloc (.cells #[.int .i64 0] 3)).alloc (.cells #[.int .i64 2] 27)) := ((((Fr.refl _ _).alloc _).alloc _).alloc _).alloc _
  have b4 := (One.new (w := (w.alloc (.cells #[.pointer (some ⟨t, 0, none⟩)] 26)).alloc (.cells #[.int .i64 k] 3)) 3 (.int .i64 0)).alloc (.cells #[.int .i64 2] 27)
  have b5 := One.new (w := ((w.alloc (.cells #[.pointer (some ⟨t, 0, none⟩)] 26)).alloc (.cells #[.int .i64 k] 3)).alloc (.cells #[.int .i64 0] 3)) 27 (.int .i64 2)
  simp only [size_alloc] at b4 b5
  exact bodyPost_ret (results_get rfl rfl b4 b5) rfl ⟨rfl, F4⟩
end
end Go.Proofs.Ytkmnnfflibamnaa
