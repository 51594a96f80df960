/- deleted. -/
import Derived.Test.YtdphademoeofkaaS26
import Derived.Test.YtdphademoeofkaaCom6
namespace Go.Proofs.Ytdphademoeofkaa
open Go.RowKit
attribute [local go_sem ↓] Go.wp_at_zero Go.wp_at_succ
def DlP (w : World) (hb rate : Nat) (l : List It) (own : List Int) (T : Nat → Prop) (a : Option Addr) (c : Nat) (e : Ending) (w' : World) : Prop :=
  e = .returned (.bool true) ∧ ∃ l' ts' I' T', l'.length = l.length ∧ Hp w' hb rate ts' own I' T' ∧ KN rate l' own ts' I' ∧ Ks w' a c l' ∧ Fr (fun q => T q ∨ onBlk a q) w w' ∧ ∀ q, T' q → T q ∨ w.heap.size ≤ q
theorem KN.any {r : Nat} {l : List It} {own : List Int} {ts : List Tr} {I : List (Option Nat)} (K : KN r l own ts I) : l.any It.inn = true ↔ flat ts ≠ [] := by
  constructor
  · intro h e
    obtain ⟨x, hx, hi⟩ := List.any_eq_true.1 h
    obtain ⟨i, hi2⟩ := List.mem_iff_getElem?.1 hx
    have := (K.iff hi2).1.1 hi
    rw [e] at this
    cases this
  · intro h
    obtain ⟨i, hi⟩ := List.exists_mem_of_ne_nil _ h
    have hb := K.bd hi
    obtain ⟨x, hx⟩ : ∃ x, l[i.toNat]? = some x := ⟨_, List.getElem?_eq_getElem (by omega)⟩
    exact List.any_eq_true.2 ⟨x, List.mem_of_getElem? hx, (K.iff hx).1.2 (by rwa [Int.toNat_of_nonneg hb.1])⟩
set_option maxRecDepth 100000 in
set_option maxHeartbeats 4000000 in
theorem deleted_none {w : World} {hb rate : Nat} {ts : List Tr} {own : List Int} {I : List (Option Nat)} {T : Nat → Prop} {l : List It} {a : Option Addr} {c : Nat} (h : Hp w hb rate ts own I T) (K : KN rate l own ts I) (hk : Ks w a c l) (h0 : flat ts = []) :
    Calls Try.prog 19 #[.pointer (some ⟨hb, 0, none⟩), .slice a l.length c] w (DlP w hb rate l own T a c) := by
  have hL : l.length ≤ 2000 := by rw [← K.ol]; exact h.ilen.2.1
  have hany : l.any It.inn = false := by
    cases e : l.any It.inn with
    | false => rfl
    | true => exact absurd h0 (K.any.1 e)
  have HS := Lib.hid (someIn hk (by omega))
  rw [hany] at HS
  have HH := Lib.hid h
  have HK := Lib.hid K
  have Hhk := Lib.hid hk
  have H0 := Lib.hid h0
  obtain ⟨L, hLe⟩ : ∃ L, L = l.length := ⟨_, rfl⟩
  have HLe := Lib.hid hLe
  rw [← hLe] at HS hL ⊢
  clear h K hk h0 hany hLe
  go_enter Try.func19, Try.ntmps19
  go_wp2_with fail
  refine HS.out.mono ?_
  rintro e w1 ⟨rfl, F1⟩
  have HF1 := Lib.hid F1
  clear F1 HS
  go_wp2_with fail
  refine (DeleteMin_none (HH.out.fr HF1.out (fun _ _ => id)) H0.out).mono ?_
  rintro e w2 ⟨rfl, rfl⟩
  go_wp2_with fail
  go_ret
  have F : Fr F0 w (w1.alloc (.cells #[.int .i64 0] 3)) := HF1.out.alloc _
  exact ⟨rfl, l, ts, I, T, rfl, HH.out.fr F (fun _ _ => id), HK.out, Hhk.out.fr0 F, F.mono (fun _ _ h => h.elim), fun q hq => .inl hq⟩
set_option maxRecDepth 100000 in
set_option maxHeartbeats 4000000 in
theorem deleted_some {w : World} {hb rate : Nat} {ts : List Tr} {own : List Int} {I : List (Option Nat)} {T : Nat → Prop} {l : List It} {a : Option Addr} {c : Nat} (h : Hp w hb rate ts own I T) (K : KN rate l own ts I) (hk : Ks w a c l) (hT : ∀ q, onBlk a q → ¬ T q) (h0 : flat ts ≠ []) :
    Calls Try.prog 19 #[.pointer (some ⟨hb, 0, none⟩), .slice a l.length c] w (DlP w hb rate l own T a c) := by
  have hL : l.length ≤ 2000 := by rw [← K.ol]; exact h.ilen.2.1
  have hany := K.any.2 h0
  have HS := Lib.hid (someIn hk (by omega))
  rw [hany] at HS
  have HH := Lib.hid h
  have HK := Lib.hid K
  have Hhk := Lib.hid hk
  have H0 := Lib.hid h0
  have HT := Lib.hid hT
  obtain ⟨L, hLe⟩ : ∃ L, L = l.length := ⟨_, rfl⟩
  have HLe := Lib.hid hLe
  rw [← hLe] at HS hL ⊢
  clear h K hk h0 hany hLe hT
  go_enter Try.func19, Try.ntmps19
  go_wp2_with fail
  refine HS.out.mono ?_
  rintro e w1 ⟨rfl, F1⟩
  have HF1 := Lib.hid F1
  clear F1 HS
  go_wp2_with fail
  refine (DeleteMin_any (HH.out.fr HF1.out (fun _ _ => id)) H0.out).mono ?_
  rintro e w2 ⟨id, key, ts', I', T', rfl, hDm, hHp, hFr, hT'⟩
  obtain ⟨x, hid0, hx, hin, hnow, hkey, hKN, hlow⟩ := HK.out.dm hDm
  obtain ⟨i, rfl⟩ : ∃ i : Nat, id = i := ⟨id.toNat, by omega⟩
  rw [Int.toNat_natCast] at hx hKN
  have hiL : i < L := by rw [HLe.out]; exact (List.getElem?_eq_some_iff.1 hx).1
  have hk2 : Ks w2 a c l := (Hhk.out.fr0 HF1.out).fr hFr (fun q hq e => HT.out q hq e)
  have hF12 : Fr T w w2 := (HF1.out.mono (fun _ _ h => h.elim)).trans hFr (fun q _ e => e)
  obtain ⟨g, rfl, hg, x0, x1, x2, xf⟩ := hk2.at hx
  rw [hin] at x2
  have hd : decide (key < x.now) = false := decide_eq_false (by omega)
  have hd2 : decide (L ≤ i) = false := decide_eq_false (by omega)
  have HOne : Hid (One (w2.alloc (.cells #[.int .i64 key] 3)).drew w2.heap.size 3 (.int .i64 key)) := Lib.hid (One.new 3 _)
  have HKd : Hid (Ks (w2.alloc (.cells #[.int .i64 key] 3)).drew (some ⟨g, 0, none⟩) c l) := Lib.hid (hk2.fr0 ((Fr.refl F0 w2).alloc _).drew)
  have HCK : Hid (Calls Try.prog 35 #[.slice (some ⟨g, 0, none⟩) L c, .func (.func 37) #[] #[.pointer (some ⟨w2.heap.size, 0, none⟩)]] (w2.alloc (.cells #[.int .i64 key] 3)).drew fun e w' => e = .returned (.bool true) ∧ Fr F0 (w2.alloc (.cells #[.int .i64 key] 3)).drew w') := Lib.hid (by
    have := hasKey37 HKd.out (by rw [← HLe.out]; omega) HOne.out
    rwa [any_own hkey, ← HLe.out] at this)
  have hmf : ∀ (fn : Fn) (first cap : Array Value) (w : World), (Instr.makeFunc fn first cap).run Try.prog w = .ok (.func fn first cap) w := fun _ _ _ _ => rfl
  have HX := Lib.hid (And.intro hx (And.intro hKN (And.intro hlow (And.intro hHp (And.intro hF12 hT')))))
  have hwg := HF1.out.size
  have HT2 := Lib.hid (And.intro hFr hg)
  clear hx hKN hlow hHp hF12 hT' hFr hDm hkey hk2 hin hnow hid0
  go_wp2_with fail
  have q1 : (w2.alloc (.cells #[.int .i64 key] 3)).drew.cell? ⟨g, i * 3 + 1, none⟩ = some (.int .i64 x.now) := ((Fr.refl F0 w2).alloc _).drew.cell x1 id
  have q2 : (w2.alloc (.cells #[.int .i64 key] 3)).drew.cell? ⟨g, i * 3 + 2, none⟩ = some (.bool true) := ((Fr.refl F0 w2).alloc _).drew.cell x2 id
  have q3 : (w2.alloc (.cells #[.int .i64 key] 3)).drew.cell? ⟨w2.heap.size, 0, none⟩ = some (.int .i64 key) := HOne.out.cell
  have Hh := And.intro q1 (And.intro q2 q3)
  go_region_held3 (fun w' => w'.cell? ⟨g, i * 3 + 1, none⟩ = some (.int .i64 x.now) ∧ w'.cell? ⟨g, i * 3 + 2, none⟩ = some (.bool true) ∧ w'.cell? ⟨w2.heap.size, 0, none⟩ = some (.int .i64 key)) (go_keep)
    (first | (go_at_call 35; (with_reducible refine HCK.out.mono ?_); rintro e w3 ⟨rfl, F3⟩; have k1 := F3.cell q1 id; have k2 := F3.cell q2 id; have k3 := F3.cell q3 id) | fail)
  all_goals
    have FR3 : Hid (Fr F0 w2 w3) := Lib.hid ((((Fr.refl F0 w2).alloc _).drew).trans0 F3)
    have HK3 := Lib.hid (HKd.out.fr0 F3)
    have HO3 := Lib.hid (HOne.out.fr F3 id)
    have hs3 := FR3.out.size
    obtain ⟨g', eg, _, y0, y1, y2, yf⟩ := Ks.at HK3.out HX.out.1
    have eg' : g = g' := by injection eg with eg; injection eg
    subst eg'
    have z2 := yf (i * 3 + 2)
    clear y0 y1 yf eg q1 q2 q3 Hh hd hd2 x0 x1 x2 xf F3 HCK HKd hmf
    go_wp2_with fail
    have HKW : Hid (Ks (w3.setCell ⟨g, i * 3 + 2, none⟩ (.bool false)) (some ⟨g, 0, none⟩) c (l.set i { x with inn := false })) := Lib.hid (by
      have := OwnW.set (i := i * 3 + 2) HK3.out (.bool false)
      rw [its_off HX.out.1] at this
      show OwnW _ 0 44 3 _ (l.set i { x with inn := false }).length c _
      rw [List.length_set]
      exact this)
    have FW : Hid (Fr (onBlk (some ⟨g, 0, none⟩)) w2 (w3.setCell ⟨g, i * 3 + 2, none⟩ (.bool false))) := Lib.hid ((FR3.out.mono (fun _ _ h => h.elim)).setOn _ _)
    have yk3 : (w3.setCell ⟨g, i * 3 + 2, none⟩ (.bool false)).cell? ⟨w2.heap.size, 0, none⟩ = some (.int .i64 key) := (HO3.out.other (p := ⟨g, i * 3 + 2, none⟩) (fun (e : w2.heap.size = g) => by omega) _).cell
    clear y2 z2 HK3 HO3 FR3 hs3 HOne
    generalize w3.setCell ⟨g, i * 3 + 2, none⟩ (.bool false) = W at *
    have hgT : Hid (∀ q, T' q → ¬ onBlk (some ⟨g, 0, none⟩) q) := Lib.hid (fun q hq e => by
      have e1 := (onBlk_some _ _ _ _).1 e
      rcases HX.out.2.2.2.2.2 q hq with h | h
      · exact HT.out q e h
      · have := (OwnW.blk Hhk.out q e).2
        omega)
    have HHW : Hid (Hp W hb rate ts' own I' T') := Lib.hid (HX.out.2.2.2.1.fr FW.out hgT.out)
    have HKNW := Lib.hid HX.out.2.1
    have HLs : Hid ((l.set i { x with inn := false }).length = L) := Lib.hid (by rw [List.length_set, ← HLe.out])
    have Hlow := Lib.hid HX.out.2.2.1
    go_loop [73] (fun s73 => ∃ j : Nat, j ≤ L ∧ s73 = .int .i64 j) (fun s73 => L - (intOf s73).toNat)
    case atStart => exact ⟨0, by omega, rfl⟩
    case round =>
      obtain ⟨j, hj, rfl⟩ := hrel
      by_cases hlt : j < L
      · obtain ⟨y, hy⟩ : ∃ y, (l.set i { x with inn := false })[j]? = some y := ⟨_, List.getElem?_eq_getElem (by rw [HLs.out]; exact hlt)⟩
        obtain ⟨g', eg, _, y0, y1, y2, yf⟩ := Ks.at HKW.out hy
        have eg' : g = g' := by injection eg with eg; injection eg
        subst eg'
        cases hyn : y.inn with
        | false =>
          rw [hyn] at y2
          clear hy hyn eg y0 y1 yf
          go_wp2_with fail
          go_round
          case rel => exact ⟨j + 1, by omega, by go_num⟩
          case measure => simp [intOf]; omega
        | true =>
          rw [hyn] at y2
          obtain ⟨k, hk1, hk2⟩ := HKNW.out.on j y hy hyn
          have hlo : key ≤ k := Hlow.out _ hk2
          have HC := Lib.hid (Current_in HHW.out HKNW.out.sx hk2)
          clear hy hyn eg y0 y1 yf hk1 hk2
          go_wp2_with fail
          refine HC.out.mono ?_
          rintro e w9 ⟨rfl, rfl⟩
          go_wp2_with fail
          go_round
          case rel => exact ⟨j + 1, by omega, by go_num⟩
          case measure => simp [intOf]; omega
      · go_wp2_with fail
        go_ret
        refine ⟨rfl, l.set i { x with inn := false }, ts', I', T', List.length_set .., HHW.out, HKNW.out, HKW.out, ?_, fun q hq => ?_⟩
        · exact (HX.out.2.2.2.2.1.mono (fun q _ e => .inl e)).trans FW.out (fun q _ e => .inr e)
        · rcases HX.out.2.2.2.2.2 q hq with h | h
          · exact .inl h
          · exact .inr (by omega)
theorem deleted_any {w : World} {hb rate : Nat} {ts : List Tr} {own : List Int} {I : List (Option Nat)} {T : Nat → Prop} {l : List It} {a : Option Addr} {c : Nat} (h : Hp w hb rate ts own I T) (K : KN rate l own ts I) (hk : Ks w a c l) (hT : ∀ q, onBlk a q → ¬ T q) :
    Calls Try.prog 19 #[.pointer (some ⟨hb, 0, none⟩), .slice a l.length c] w (DlP w hb rate l own T a c) := by
  by_cases h0 : flat ts = []
  · exact deleted_none h K hk h0
  · exact deleted_some h K hk hT h0
end Go.Proofs.Ytdphademoeofkaa
