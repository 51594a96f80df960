/- Scripts: an argument that is a slice of steps; short. -/
import Derived.Test.YtdphademoeofkaaS29
import Derived.Test.YtdphademoeofkaaComArg
namespace Go.Proofs.Ytdphademoeofkaa
open Go.RowKit Go.ChangeShapes Go.WideShapes Go.Deep
attribute [local go_sem ↓] Go.wp_at_zero Go.wp_at_succ
structure Stp where
  kind : Int
  key : Int
  a : Option Addr
  n : Nat
  c : Nat
  L : List Int
def Stp.agg (x : Stp) : Value := .agg #[.int .i64 x.kind, .int .i64 x.key, .slice x.a x.n x.c]
/-- A slice of steps that came in. -/
structure ArgSs (w : World) (a : Option Addr) (n c : Nat) (xs : List Stp) : Prop where
  len : xs.length = n
  max : n ≤ 9223372036854775807
  cells : ∀ (i : Nat) (x : Stp), xs[i]? = some x → ∃ b o, a = some ⟨b, o, none⟩ ∧ w.cell? ⟨b, o + i * 3, none⟩ = some (.int .i64 x.kind) ∧ w.cell? ⟨b, o + i * 3 + 1, none⟩ = some (.int .i64 x.key) ∧ w.cell? ⟨b, o + i * 3 + 2, none⟩ = some (.slice x.a x.n x.c)
  row : ∀ (i : Nat) (x : Stp), xs[i]? = some x → Rd w x.a x.n (ints x.L)
theorem ArgSs.fr0 {w w' : World} {a : Option Addr} {n c : Nat} {xs : List Stp} (h : ArgSs w a n c xs) (f : Fr F0 w w') : ArgSs w' a n c xs :=
  ⟨h.len, h.max, fun i x hx => by
    obtain ⟨b, o, e, h1, h2, h3⟩ := h.cells i x hx
    exact ⟨b, o, e, f.cell h1 id, f.cell h2 id, f.cell h3 id⟩, fun i x hx => (h.row i x hx).fr0 f⟩
section
variable {H : Type} {enc : TypeId × Value → H} {w : World} {base : Nat} {held : Bool}
theorem open_stp {fs : Array Field} {fuel : Nat} {cs : List Value} {x : DataW H × List MemPlace} (ht : Try.prog.underlying 38 = some (.slice 42)) (he : Try.prog.underlying 42 = some (.struct fs))
    (hone : oneCellFields Try.prog fs = true) (hC : Try.prog.cellsOf 42 = 3) (hfs : fs.size = 3) (f0 : ∀ f, fs[0]? = some f → Try.prog.underlying f.type = some (.int .i64)) (f1 : ∀ f, fs[1]? = some f → Try.prog.underlying f.type = some (.int .i64)) (f2 : ∀ f, fs[2]? = some f → Try.prog.underlying f.type = some (.slice 3)) (u3 : Try.prog.underlying 3 = some (.int .i64)) (hC3 : Try.prog.cellsOf 3 = 1)
    (h : DataW.trod enc Try.prog w base (fun _ => true) held fuel 38 cs = some x) : ∃ (a : Option Addr) (n c : Nat) (xs : List Stp), cs = [.slice a n c] ∧ ArgSs w a n c xs := by
  rcases open_slice ht h with ⟨hcs, _⟩ | ⟨a, len, cap, m, n, D, Pl, hcs, _, hl, hm, hmm, _, hi⟩
  · exact ⟨none, 0, 0, [], hcs, rfl, by omega, fun i x h => by simp at h, fun i x h => by simp at h⟩
  · have hlm : len ≤ m := by rw [hmm]; split <;> omega
    have hall : ∀ i, ∃ s : Stp, i < len → w.cell? ((a.add (i * 3)).add 0) = some (.int .i64 s.kind) ∧ w.cell? ((a.add (i * 3)).add 1) = some (.int .i64 s.key) ∧ w.cell? ((a.add (i * 3)).add 2) = some (.slice s.a s.n s.c) ∧ Rd w s.a s.n (ints s.L) := by
      intro i
      by_cases hil : i < len
      · obtain ⟨cs', hc, ht'⟩ := hi i (by omega)
        rw [hC] at hc
        obtain ⟨_, hcl, hat⟩ := World.cells?_some hc
        obtain ⟨ys, n', _, _, _, hyl, hf⟩ := DataW.trod_struct he ht'
        have fld : ∀ j (hj : j < 3), ∃ f, fs[j]? = some f ∧ DataW.trod enc Try.prog w base (fun _ => true) held n' f.type [cs'[j]'(by omega)] = ys[j]? := by
          intro j hj
          have hfj : fs[j]? = some (fs[j]'(by omega)) := Array.getElem?_eq_getElem (by omega)
          obtain ⟨ho, hk1⟩ := hone_of hone j _ hfj
          have h1 := hf j _ hfj
          have h2 : (cs'.drop j).take 1 = [cs'[j]'(by omega)] := by
            rw [List.drop_eq_getElem_cons (by omega)]; rfl
          rw [ho, hk1, h2] at h1
          exact ⟨_, hfj, h1⟩
        have hyz : ys.length = 3 := by omega
        obtain ⟨g0, e0, t0⟩ := fld 0 (by omega)
        obtain ⟨g1, e1, t1⟩ := fld 1 (by omega)
        obtain ⟨g2, e2, t2⟩ := fld 2 (by omega)
        rw [List.getElem?_eq_getElem (by omega)] at t0 t1 t2
        obtain ⟨v0, hv0, _, _⟩ := DataW.trod_int (f0 _ e0) t0
        obtain ⟨v1, hv1, _, _⟩ := DataW.trod_int (f1 _ e1) t1
        injection hv0 with hv0 _
        injection hv1 with hv1 _
        have c0 := hat 0 (by omega)
        have c1 := hat 1 (by omega)
        have c2 := hat 2 (by omega)
        rw [List.getElem?_eq_getElem (by omega)] at c0 c1 c2
        rcases open_ints (f2 _ e2) u3 hC3 t2 with ⟨hcs2, _⟩ | ⟨x2, l2, cp2, zs, hcs2, _, hl2, hm2, hz2, _, hcell, hwz⟩
        · injection hcs2 with hcs2 _
          exact ⟨⟨v0, v1, none, 0, 0, []⟩, fun _ => ⟨by rw [c0, hv0], by rw [c1, hv1], by rw [c2, hcs2], Rd.nil _ _⟩⟩
        · injection hcs2 with hcs2 _
          exact ⟨⟨v0, v1, some x2, l2, cp2, zs.take l2⟩, fun _ => ⟨by rw [c0, hv0], by rw [c1, hv1], by rw [c2, hcs2], (argInts_some hl2 hm2 (by simpa using hz2) hcell hwz).rd⟩⟩
      · exact ⟨⟨0, 0, none, 0, 0, []⟩, fun h => absurd h hil⟩
    obtain ⟨S, hS⟩ : ∃ S : Nat → Stp, ∀ i, i < len → w.cell? ((a.add (i * 3)).add 0) = some (.int .i64 (S i).kind) ∧ w.cell? ((a.add (i * 3)).add 1) = some (.int .i64 (S i).key) ∧ w.cell? ((a.add (i * 3)).add 2) = some (.slice (S i).a (S i).n (S i).c) ∧ Rd w (S i).a (S i).n (ints (S i).L) :=
      ⟨fun i => Classical.choose (hall i), fun i => Classical.choose_spec (hall i)⟩
    have hget : ∀ {i : Nat} {x : Stp}, ((List.range len).map S)[i]? = some x → i < len ∧ x = S i := by
      intro i x hx
      by_cases hj : i < len
      · simp [hj] at hx; exact ⟨hj, hx.symm⟩
      · simp [hj] at hx
    refine ⟨some a, len, cap, (List.range len).map S, hcs, by simp, by unfold maxLen at hm; omega, fun i x hx => ?_, fun i x hx => ?_⟩
    · obtain ⟨hil, rfl⟩ := hget hx
      obtain ⟨h1, h2, h3, _⟩ := hS i hil
      have hsp : a.spot = none := by
        have h0 := (hS 0 (by omega)).1
        rw [Nat.zero_mul] at h0
        simp only [Addr.add, if_true, World.cell?] at h0
        split at h0
        · cases hs : a.spot with
          | none => rfl
          | some s => simp [hs] at h0
        · cases h0
      obtain ⟨b, o, s⟩ := a
      simp only at hsp
      subst hsp
      rw [Addr.add_lit, Addr.add_lit] at h1 h2 h3
      exact ⟨b, o, rfl, h1, h2, h3⟩
    · obtain ⟨hil, rfl⟩ := hget hx
      exact (hS i hil).2.2.2
end
/-- A step whose list is too long. -/
theorem long_any (x : Stp) (w : World) : Calls Try.prog 34 #[x.agg] w fun e w' => e = .returned (.bool (decide ((20 : Int) < (x.n : Int)))) ∧ Fr F0 w w' := by
  obtain ⟨n, hn⟩ : ∃ n, n = x.n := ⟨_, rfl⟩
  unfold Stp.agg
  rw [← hn]
  clear hn
  go_enter Try.func34, Try.ntmps34
  go_wp2_with fail
  go_ret
  exact ⟨rfl, (Fr.refl _ _).alloc _⟩
end Go.Proofs.Ytdphademoeofkaa
