/- What the steps lean on: any slice cloned; entries that a step makes. -/
import Derived.Test.YtdihajeccjdhkaaA22
import Derived.Test.YtdihajeccjdhkaaSlClone
namespace Go.Proofs.Ytdihajeccjdhkaa
open Go.RowKit
attribute [local go_sem ↓] Go.wp_at_zero Go.wp_at_succ
theorem Clone_all {a : Option Addr} {n c : Nat} {xs : List Int} {w : World} (hr : Rd w a n (ints xs)) (hn2 : n ≤ 1000000) :
    Calls Try.prog 52 #[.slice a n c] w fun e w' => ∃ a' c', e = .returned (.slice a' n c') ∧ Own w' w.heap.size 3 a' n c' (ints xs) ∧ Fr F0 w w' := by
  by_cases h0 : n = 0
  · subst h0
    have hx : xs = [] := by have := hr.len; simpa using this
    subst hx
    have hnil := fun (w : World) (a : Option Addr) (l c : Nat) => Lib.run_eql_slice_nil (P := Try.prog) w 22 3 a l c 0 0 Try.underlying22
    cases a with
    | none =>
      clear hr
      go_enter Try.func52, Try.ntmps52
      go_wp2_with fail
      go_ret
      exact ⟨none, 0, rfl, Own.nil _ _ _, Fr.refl _ _⟩
    | some ad =>
      have hO : Own (w.alloc (.cells (#[] : Array Value) 3)) w.heap.size 3 (some ⟨w.heap.size, 0, none⟩) 0 0 (ints []) := Own.lit [] 0 rfl (by omega) (by omega)
      have hF : Fr F0 w (w.alloc (.cells (#[] : Array Value) 3)) := (Fr.refl _ _).alloc _
      replace hO := Lib.hid hO
      have hR := Lib.hid (hr.fr0 hF)
      replace hF := Lib.hid hF
      clear hr
      go_enter Try.func52, Try.ntmps52
      go_wp2_with (at_builtin; refine wpAppRd E3 hO.out hR.out (oneCell_ints []) (by omega) (by omega) (by simp) 0 rfl rfl rfl ?_; intro a' c' w' own' fr' at')
      go_ret
      refine ⟨a', c', rfl, by simpa using own', hF.out.trans fr' (fun k hk hs => ?_)⟩
      have := (onBlk_some _ _ _ _).1 hs
      omega
  · obtain ⟨b, o, rfl, _⟩ := hr.cells (by omega)
    exact Clone_any b o n c xs w hr (by omega) hn2
theorem EOk.new {w w5 : World} {bx K : Nat} {L : List Ent} {t : Option Addr} {ct : Nat} {l : Option Addr} {cl k : Nat} (H : XS w bx K L t ct l cl k) (f : Fr F0 w w5) {K' B n c : Nat} {p a : Option Addr} {xs : List Int}
    (hT : TK w5 xs p) (O : Own w5 B 3 a n c (ints xs)) (hB : w.heap.size ≤ B) (hs : Tr.Small xs) (hn : n ≤ K') : EOk (Nb bx t l) w5 K' (p, ⟨a, n, c, xs⟩) :=
  ⟨hT.st (H.fr0 f).noT, O.rd.st (fun j hj hN => by have := (O.blk j hj).1; have := H.nlt j hN; omega), O.cap, hs, hn⟩
theorem XPost.up {w w5 : World} {bx K : Nat} {L : List Ent} {t l : Option Addr} {M M' : List Ent → Prop} {e : Ending} {w' : World} (f : Fr F0 w w5) (hM : ∀ x, M x → M' x) (h : XPost w5 bx K L t l M e w') : XPost w bx K L t l M' e w' := by
  obtain ⟨h1, m, hm, t', ct', l', cl', k', h2, h3, h4⟩ := h
  exact ⟨h1, m, hM m hm, t', ct', l', cl', k', h2, (f.mono (fun _ _ h => h.elim)).trans h3 (fun _ _ h => h), fun j hj hk => h4 j (Nat.lt_of_lt_of_le hj f.size) hk⟩
theorem XPost.none {w w5 : World} {bx K : Nat} {L : List Ent} {t : Option Addr} {ct : Nat} {l : Option Addr} {cl k : Nat} (H : XS w bx K L t ct l cl k) (f : Fr F0 w w5) : XPost w bx (K + 1) L t l (fun M => M.length ≤ 2) (.returned (.bool true)) w5 :=
  ⟨rfl, [], by simp, t, ct, l, cl, k, by simpa using (H.fr0 f).up (Nat.le_succ K), f.mono (fun _ _ h => h.elim), fun _ _ h => h⟩
/-- What adding asks, and what it gives. -/
theorem add_at {w w5 : World} {bx K : Nat} {L : List Ent} {t : Option Addr} {ct : Nat} {l : Option Addr} {cl k : Nat} {b : Nat} {r : SlI} (H : XS w bx K L t ct l cl k) (f : Fr F0 w w5)
    (hT : TK w5 r.xs (some ⟨b, 0, none⟩)) (hE : EOk (Nb bx t l) w5 (K + 1) (some ⟨b, 0, none⟩, r)) (hK : K ≤ 1000) (hk : k ≤ 1000) :
    Calls Try.prog 33 #[.pointer (some ⟨bx, 0, none⟩), .pointer (some ⟨b, 0, none⟩), .int .i64 0, .slice r.a r.n r.c] w5 (XPost w bx (K + 1) L t l (fun M => M.length ≤ 2)) := by
  obtain ⟨a, m, c, xs⟩ := r
  exact (add_ok ((H.fr0 f).up (Nat.le_succ K)) hT hE (by omega) (by omega)).mono fun e w' h => XPost.up f (fun x hx => by rw [hx]; simp) h
theorem RdS.take {N : Nat → Prop} {w : World} {a : Option Addr} {n c : Nat} {xs : List Int} (h : RdS N w a n xs) (hc : n ≤ c) {k : Nat} (hk : k ≤ n) : RdS N w (cutA a c 0) k (xs.take k) := fun w' f => by
  have h1 := (h w' f).cutHi hc hk
  rwa [ints_take] at h1
theorem RdS.drop {N : Nat → Prop} {w : World} {a : Option Addr} {n c : Nat} {xs : List Int} (h : RdS N w a n xs) (hc : n ≤ c) {k r : Nat} (hk : n = k + r) : RdS N w (cutA a c k) r (xs.drop k) := fun w' f => by
  have h1 := (h w' f).cut hc hk
  rwa [ints_drop] at h1
end Go.Proofs.Ytdihajeccjdhkaa
