/- Appending to a slice of items; slices.Clone of one. -/
import Derived.Test.YtdphademoeofkaaS27
namespace Go.Proofs.Ytdphademoeofkaa
open Go.RowKit
attribute [local go_sem ↓] Go.wp_at_zero Go.wp_at_succ
theorem EI : Try.prog.underlying 40 = some (.slice 44) ∧ (Try.prog.info? 44).map (fun i => (i.zero, i.size, i.bytes)) = some (some (.agg #[.int .i64 0, .int .i64 0, .bool false]), 3, 24) := ⟨by kernel_rfl, by kernel_rfl⟩
/-- 'append(s, x...)': s owned, x items that lie one after another. -/
theorem wpAppI {w : World} {a : Option Addr} {n c B : Nat} {vs : List Value} (own : OwnW w B 44 3 a n c vs) {b : Addr} {m cx : Nat} {us : List Value} (hul : us.length = m * 3) (huc : ∀ j u, us[j]? = some u → w.cell? (b.add j) = some u) (hu1 : ∀ u ∈ us, u.oneCell' = true)
    (hm0 : 0 < m) (hlen : n + m ≤ 100000) (hB : B ≤ w.heap.size)
    {ops : Array Oper} {rest : List Oper} {act : Act} {Q : Exit → Act → World → Prop} {dst : Option Tmp} {ty : TypeId} {pos : String} {after : Array Edge} {s x : Operand}
    (hs : act.eval s = .slice a n c) (hx : act.eval x = .slice (some b) m cx)
    (K : ∀ a' c' w', OwnW w' B 44 3 a' (n + m) c' (vs ++ us) → Fr (onBlk a) w w' → (∀ k, onBlk a' k → onBlk a k ∨ w.heap.size ≤ k) → wpList Try.prog ops Q rest (act.put dst (.slice a' (n + m) c')) w') :
    wpList Try.prog ops Q ({ dst, op := .call { callee := .builtin .append, args := #[s, x], argTypes := #[40, 40] }, type := ty, pos, after, guard := none } :: rest) act w := by
  obtain ⟨E1, E2⟩ := EI
  obtain ⟨i0, hi, hz0, hz1, hz2⟩ := info_parts E2
  refine wpList_append_own_at (w := w) rfl s x 40 rfl B 44 i0 _ 3 24 E1 hi hz0 hz1 hz2 rfl (by decide) (.slice a n c) n vs hs own b m cx us hx hul huc hu1 (by unfold maxLen; omega) (by omega) hB ?_
  intro v' w' hown hg hnil hat
  rcases hown.2 with ⟨hv, hn⟩ | ⟨g, cap, cur, hv, r⟩
  · omega
  · subst hv
    refine K _ _ _ hown (Fr.of_grown rfl hg) ?_
    intro k hk
    have hk' := (onBlk_some _ _ _ _).1 hk
    subst hk'
    rcases hat with hat | hat
    · left
      cases a with
      | none => simp [Value.ownBlock] at hat
      | some a => simp [Value.ownBlock] at hat; exact ⟨a.off, a.spot, by rw [hat]⟩
    · right
      simp [Value.ownBlock] at hat
      omega
theorem its_one (l : List It) : ∀ u ∈ its l, u.oneCell' = true := by
  intro u hu
  obtain ⟨x, _, hx⟩ := List.mem_flatMap.1 hu
  simp only [It.cs, List.mem_cons, List.not_mem_nil, or_false] at hx
  rcases hx with rfl | rfl | rfl <;> rfl
/-- One item. -/
theorem wpAppI1 {w : World} {a : Option Addr} {c : Nat} {l : List It} {L : Nat} (own : Ks w a c l) (hL : l.length = L) (hlen : L ≤ 10000) (v : It)
    {ops : Array Oper} {rest : List Oper} {act : Act} {Q : Exit → Act → World → Prop} {dst : Option Tmp} {ty : TypeId} {pos : String} {after : Array Edge} {s x : Operand}
    (hs : act.eval s = .slice a L c) (hx : act.eval x = .slice (some ⟨w.heap.size, 0, none⟩) 1 1)
    (K : ∀ a' c' w', Ks w' a' c' (l ++ [v]) → Fr (onBlk a) w w' → (∀ k, onBlk a' k → onBlk a k ∨ w.heap.size ≤ k) → wpList Try.prog ops Q rest (act.put dst (.slice a' (L + 1) c')) w') :
    wpList Try.prog ops Q ({ dst, op := .call { callee := .builtin .append, args := #[s, x], argTypes := #[40, 40] }, type := ty, pos, after, guard := none } :: rest) act (w.alloc (.cells #[.int .i64 v.own, .int .i64 v.now, .bool v.inn] 44)) := by
  subst hL
  refine wpAppI (w := w.alloc (.cells #[.int .i64 v.own, .int .i64 v.now, .bool v.inn] 44)) (b := ⟨w.heap.size, 0, none⟩) (m := 1) (cx := 1) (us := its [v]) (OwnW.fr0 own ((Fr.refl _ _).alloc _)) rfl (fun j u hj => ?_) (its_one _) (by omega) (by omega) (Nat.zero_le _) hs hx ?_
  · rw [Addr.add_lit, Nat.zero_add]
    exact (Blk.new w 44 (It.cs v)).cell (by simpa [its] using hj)
  · intro a' c' w' O F A
    refine K a' c' w' ?_ (((Fr.refl (onBlk a) w).alloc _).trans F (fun _ _ h => h)) (fun k hk => (A k hk).imp id (fun e => by rw [size_alloc] at e; omega))
    show OwnW _ 0 44 3 _ (l ++ [v]).length _ _
    rw [List.length_append, its_app]
    exact O
theorem CloneI_nil (w : World) : Calls Try.prog 38 #[.slice none 0 0] w fun e w' => e = .returned (.slice none 0 0) ∧ w = w' := by
  have hnil := fun (w : World) (a : Option Addr) (l c : Nat) => Lib.run_eql_slice_nil (P := Try.prog) w 40 44 a l c 0 0 Try.underlying40
  go_enter Try.func38, Try.ntmps38
  go_wp2_with fail
  go_ret
  exact ⟨rfl, rfl⟩
theorem CloneI_some {w : World} {a : Option Addr} {c : Nat} {l : List It} (hk : Ks w a c l) (hl : 0 < l.length) (hl2 : l.length ≤ 5000) : Calls Try.prog 38 #[.slice a l.length c] w fun e w' => ∃ a' c', e = .returned (.slice a' l.length c') ∧ Ks w' a' c' l ∧ Fr F0 w w' ∧ ∀ q, onBlk a' q → w.heap.size ≤ q := by
  have hnil := fun (w : World) (a : Option Addr) (l c : Nat) => Lib.run_eql_slice_nil (P := Try.prog) w 40 44 a l c 0 0 Try.underlying40
  obtain ⟨g, rfl, hg, hc, _⟩ := OwnW.at hk hl
  have hO : Hid (OwnW (w.alloc (.cells (#[] : Array Value) 44)) 0 44 3 (some ⟨w.heap.size, 0, none⟩) 0 0 []) := Lib.hid ⟨rfl, .inr ⟨w.heap.size, 0, #[], rfl, Nat.zero_le _, heap_alloc_new _ _, Nat.le_refl _, by decide, rfl, rfl⟩⟩
  have hF : Hid (Fr F0 w (w.alloc (.cells (#[] : Array Value) 44))) := Lib.hid ((Fr.refl _ _).alloc _)
  have Hc := Lib.hid hc
  have Hk := Lib.hid hk
  have Hul : Hid ((its l).length = l.length * 3) := Lib.hid (its_len l)
  obtain ⟨L, hL⟩ : ∃ L, L = l.length := ⟨_, rfl⟩
  have HL := Lib.hid hL
  rw [← hL] at hl hl2 Hul ⊢
  clear hk hc hL
  go_enter Try.func38, Try.ntmps38
  go_wp2_with (at_builtin; refine wpAppI (us := its l) (b := ⟨g, 0, none⟩) (m := L) (cx := c) hO.out Hul.out (fun j u hj => by rw [Addr.add_lit, Nat.zero_add]; exact hF.out.cell (Hc.out j u hj) id) (its_one l) hl (by omega) (by omega) rfl rfl ?_; intro a' c' w' own' fr' at')
  go_ret
  refine ⟨a', c', rfl, ?_, hF.out.trans fr' (fun k hk hs => ?_), fun q hq => ?_⟩
  · show OwnW _ 0 44 3 _ l.length _ _
    rw [← HL.out]
    simpa using own'
  · have := (onBlk_some _ _ _ _).1 hs
    omega
  · rcases at' q hq with e | e
    · have := (onBlk_some _ _ _ _).1 e; omega
    · rw [size_alloc] at e; omega
/-- slices.Clone of items: a new slice, or none. -/
theorem CloneI {w : World} {a : Option Addr} {c : Nat} {l : List It} (hk : Ks w a c l) (hl2 : l.length ≤ 5000) (h0 : l.length = 0 → a = none ∧ c = 0) : Calls Try.prog 38 #[.slice a l.length c] w fun e w' => ∃ a' c', e = .returned (.slice a' l.length c') ∧ Ks w' a' c' l ∧ Fr F0 w w' ∧ (∀ q, onBlk a' q → w.heap.size ≤ q) ∧ (l.length = 0 → a' = none ∧ c' = 0) := by
  rcases Nat.eq_zero_or_pos l.length with h | h
  · obtain ⟨rfl, rfl⟩ := h0 h
    have e : l = [] := List.length_eq_zero_iff.1 h
    subst e
    exact (CloneI_nil w).mono fun e w' ⟨h1, h2⟩ => ⟨none, 0, h1, h2 ▸ Ks.nil _, h2 ▸ Fr.refl _ _, fun q hq => absurd hq (onBlk_none _), fun _ => ⟨rfl, rfl⟩⟩
  · exact (CloneI_some hk h hl2).mono fun e w' ⟨a', c', h1, h2, h3, h4⟩ => ⟨a', c', h1, h2, h3, h4, fun e => absurd e (by omega)⟩
end Go.Proofs.Ytdphademoeofkaa
