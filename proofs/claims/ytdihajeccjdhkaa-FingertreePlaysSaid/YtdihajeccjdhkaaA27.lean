/- Any step. -/
import Derived.Test.YtdihajeccjdhkaaA26
namespace Go.Proofs.Ytdihajeccjdhkaa
open Go.RowKit
theorem do_any {w : World} {bx K : Nat} {L : List Ent} {t : Option Addr} {ct : Nat} {l : Option Addr} {cl k : Nat} (H : XS w bx K L t ct l cl k) (hK3 : 300 ≤ K) (hK : K ≤ 1000) (hk : k ≤ 1000) (hk0 : 0 < k) (kd I X : Int) {A B : Nat} (hA : A ≤ 255) (hB : B ≤ 255) :
    Calls Try.prog 34 #[.pointer (some ⟨bx, 0, none⟩), .agg #[.int .i64 kd, .int .u8 A, .int .u8 B, .int .i64 I, .int .i64 X]] w (XPost w bx (K + 1) L t l (fun M => M.length ≤ 2)) := by
  have hi : A % k < L.length := by rw [H.len]; exact Nat.mod_lt _ hk0
  have hj : B % k < L.length := by rw [H.len]; exact Nat.mod_lt _ hk0
  obtain ⟨e, he⟩ : ∃ e, L[A % k]? = some e := ⟨_, List.getElem?_eq_getElem hi⟩
  obtain ⟨e', he'⟩ : ∃ e, L[B % k]? = some e := ⟨_, List.getElem?_eq_getElem hj⟩
  have u1 : ∀ {p : Ent → Prop}, p e → ∀ x, L[A % k]? = some x → p x := fun hp x hx => by rw [he] at hx; injection hx with hx; exact hx ▸ hp
  have u2 : ∀ {p : Ent → Ent → Prop}, p e e' → ∀ x y, L[A % k]? = some x → L[B % k]? = some y → p x y := fun hp x y hx hy => by
    rw [he] at hx; injection hx with hx; rw [he'] at hy; injection hy with hy; exact hx ▸ hy ▸ hp
  by_cases k0 : kd = 0
  · subst k0
    cases hX : keyB X with
    | true => exact do_push0_k H hK hk hk0 hA hB hX
    | false => exact do_push0_b H hK hk hk0 hA hB hX
  by_cases k1 : kd = 1
  · subst k1
    cases hX : keyB X with
    | true => exact do_push1_k H hK hk hk0 hA hB hX
    | false => exact do_push1_b H hK hk hk0 hA hB hX
  by_cases k2 : kd = 2
  · subst k2
    by_cases h0 : e.2.n = 0
    · exact do_pop2_0 H hK hk hk0 hA hB (u1 h0)
    · exact do_pop2_1 H hK hk hk0 hA hB (u1 (p := fun x => x.2.n ≠ 0) h0)
  by_cases k3 : kd = 3
  · subst k3
    by_cases h0 : e.2.n = 0
    · exact do_pop3_0 H hK hk hk0 hA hB (u1 h0)
    · exact do_pop3_1 H hK hk hk0 hA hB (u1 (p := fun x => x.2.n ≠ 0) h0)
  by_cases k4 : kd = 4
  · subst k4
    cases hX : keyB X with
    | false => exact do_set_bad H hK hk hk0 hA hB hX
    | true =>
      by_cases h0 : I < 0 ∨ (e.2.n : Int) ≤ I
      · exact do_set_rng H hK hk hk0 hA hB hX (u1 (p := fun x => I < 0 ∨ (x.2.n : Int) ≤ I) h0)
      · exact do_set_ok H hK hk hk0 hA hB hX (n := I.toNat) (by omega) (u1 (p := fun x => I.toNat < x.2.n) (by omega))
  by_cases k5 : kd = 5
  · subst k5
    by_cases h0 : 300 < e.2.n + e'.2.n
    · exact do_concat_b H hK hk hk0 hA hB (u2 (p := fun x y => 300 < x.2.n + y.2.n) h0) hK3
    · exact do_concat_k H hK hk hk0 hA hB (u2 (p := fun x y => x.2.n + y.2.n ≤ 300) (by omega)) hK3
  by_cases k6 : kd = 6
  · subst k6
    by_cases h0 : I < 0 ∨ (e.2.n : Int) < I
    · exact do_split_b H hK hk hk0 hA hB (u1 (p := fun x => I < 0 ∨ (x.2.n : Int) < I) h0)
    · exact do_split_k H hK hk hk0 hA hB (n := I.toNat) (by omega) (u1 (p := fun x => I.toNat ≤ x.2.n) (by omega))
  exact do_make H hK hk hk0 hA hB ⟨k0, k1, k2, k3, k4, k5, k6⟩ hK3
end Go.Proofs.Ytdihajeccjdhkaa
