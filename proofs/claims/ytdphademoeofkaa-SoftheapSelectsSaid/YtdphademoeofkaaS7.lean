/- add. -/
import Derived.Test.YtdphademoeofkaaS6
namespace Go.Proofs.Ytdphademoeofkaa
open Go.RowKit
attribute [local go_sem ↓] Go.wp_at_zero Go.wp_at_succ
def Tr.size : Tr → Nat
  | .nil => 0
  | .nd _ _ _ _ _ _ s => s
/-- The size of the node over two trees. -/
def szOf (rate : Nat) (y : Tr) : Nat := if rate + 5 < y.rank + 1 then (3 * y.size + 1) / 2 else 1
/-- What add does. -/
inductive Ad (rate : Nat) : List Tr → Tr → List (Option Nat) → List Tr → List (Option Nat) → Prop
  | put {ts x I} (h : (pad ts (x.rank + 1))[x.rank]? = some .nil) : Ad rate ts x I ((pad ts (x.rank + 1)).set x.rank x) I
  | comb {ts x I y z I1 ts' I' n bz} (h : (pad ts (x.rank + 1))[x.rank]? = some y) (hy : y ≠ .nil) (hR : Rf n (.nd bz y x [] 0 (x.rank + 1) (szOf rate y)) I z I1) (h2 : Ad rate ((pad ts (x.rank + 1)).set x.rank .nil) z I1 ts' I') : Ad rate ts x I ts' I'
def nonnil (ts : List Tr) : Nat := (ts.map fun t => match t with | .nil => 0 | _ => 1).sum
theorem nonnil_set {ts : List Tr} {k : Nat} {y : Tr} (h : ts[k]? = some y) (hy : y ≠ .nil) : nonnil (ts.set k .nil) + 1 = nonnil ts := by
  induction ts generalizing k with
  | nil => simp at h
  | cons t ts ih =>
    cases k with
    | zero =>
      simp at h
      subst h
      cases t with
      | nil => exact absurd rfl hy
      | nd => simp [nonnil]; omega
    | succ k =>
      simp at h
      have := ih h
      simp [nonnil] at this ⊢
      omega
theorem nonnil_pad (ts : List Tr) (k : Nat) : nonnil (pad ts k) = nonnil ts := by
  unfold nonnil pad
  rw [List.map_append, List.sum_append]
  simp
theorem pad_len (ts : List Tr) (j : Nat) : (pad ts j).length = max ts.length j := by simp [pad]; omega
theorem pad_more (ts : List Tr) (j : Nat) : pad ts j ++ [.nil] = pad ts (max ts.length j + 1) := by
  unfold pad
  rw [List.append_assoc]
  congr 1
  rw [show max ts.length j + 1 - ts.length = (j - ts.length) + 1 by omega, List.replicate_succ']
theorem pad_done {ts : List Tr} {j k : Nat} (h1 : j ≤ k) (h2 : k ≤ (pad ts j).length) : pad ts j = pad ts k := by
  rw [pad_len] at h2
  unfold pad
  rw [show j - ts.length = k - ts.length by omega]
theorem pad_zero (ts : List Tr) : pad ts 0 = ts := by simp [pad]
section
variable {w : World} {hb rate : Nat} {n : Int} {ts : List Tr} {own : List Int} {I : List (Option Nat)} {T : Nat → Prop} {at_ ao ai : Option Addr} {ct co ci : Nat} {Nt : Nat → Nat → Prop}
/-- A tree was taken out of the list. -/
theorem HS.take {g k : Nat} (h : HS w hb rate n ts own I T (some ⟨g, 0, none⟩) ct ao co ai ci Nt) (hk : k < ts.length) :
    HS (w.setCell ⟨g, k, none⟩ (.pointer none)) hb rate n (ts.set k .nil) own I (fun q => T q ∧ ¬ Nt k q) (some ⟨g, 0, none⟩) ct ao co ai ci (fun i q => i ≠ k ∧ Nt i q) := by
  have h1 := h.store hk TM.none (fun _ h => h.elim)
  refine { h1 with tm := fun i t ht => ?_, sep := fun i j q hi hj => h.sep i j q hi.2 hj.2, tT := fun i q hq => ⟨⟨(h.tT i q hq.2).1, fun e => hq.1 (h.sep i k q hq.2 e)⟩, (h.tT i q hq.2).2⟩, hT := ⟨h.hT, fun e => (h.tT k hb e).2.1 rfl⟩, aT := fun q hq => ⟨⟨(h.aT q hq).1, fun e => (h.tT k q e).2.2.1 hq⟩, (h.aT q hq).2⟩, oT := fun q hq => ⟨⟨(h.oT q hq).1, fun e => (h.tT k q e).2.2.2.1 hq⟩, (h.oT q hq).2⟩, iT := fun q hq => ⟨⟨(h.iT q hq).1, fun e => (h.tT k q e).2.2.2.2 hq⟩, (h.iT q hq).2⟩, lt := fun q hq => h1.lt q (.inl hq.1) }
  have h2 := h1.tm i t ht
  by_cases e : i = k
  · subst e
    have h3 : t = .nil := by
      rw [List.getElem?_set_self hk] at ht
      injection ht with ht
      exact ht.symm
    subst h3
    exact fun q hq => absurd rfl hq.1
  · exact h2.big (fun q hq => hq.elim (fun g => absurd g.1 e) (fun g => g)) (fun q hq => h2.lt q (.inr hq))
end
/-- The state of the loop of add. -/
def AdS (w0 : World) (hb rate : Nat) (n : Int) (own : List Int) (TX : Nat → Prop) (ts0 : List Tr) (x0 : Tr) (I0 : List (Option Nat)) (s1 : Value) (wr : World) (cnt : Nat) : Prop :=
  ∃ ts x I T Nx at_ ct ao co ai ci Nt, s1 = .pointer x.ptr ∧ x ≠ .nil ∧ HS wr hb rate n ts own I T at_ ct ao co ai ci Nt ∧ TM wr x Nx ∧ (∀ q, Nx q → ¬ T q) ∧ Gd own.length ts [x] ∧ Fr TX w0 wr ∧ (∀ q, T q ∨ Nx q → TX q ∨ w0.heap.size ≤ q) ∧ (∀ ts' I', Ad rate ts x I ts' I' → Ad rate ts0 x0 I0 ts' I') ∧ nonnil ts = cnt
/-- The state of the loop that makes room. -/
def PdS (w0 : World) (hb rate : Nat) (n : Int) (own : List Int) (TX : Nat → Prop) (ts : List Tr) (x : Tr) (I : List (Option Nat)) (Nx : Nat → Prop) (wr : World) (c : Nat) : Prop :=
  ∃ j T at_ ct ao co ai ci Nt, j ≤ x.rank + 1 ∧ HS wr hb rate n (pad ts j) own I T at_ ct ao co ai ci Nt ∧ TM wr x Nx ∧ (∀ q, Nx q → ¬ T q) ∧ Fr TX w0 wr ∧ (∀ q, T q ∨ Nx q → TX q ∨ w0.heap.size ≤ q) ∧ c = x.rank + 1 - (pad ts j).length
/-- What add leaves. -/
def AdPost (w : World) (hb rate : Nat) (n : Int) (own : List Int) (TX : Nat → Prop) (ts0 : List Tr) (x0 : Tr) (I0 : List (Option Nat)) (e : Ending) (w' : World) : Prop :=
  ∃ ts' I' T at_ ct ao co ai ci Nt, e = .returned (.tuple #[]) ∧ Ad rate ts0 x0 I0 ts' I' ∧ HS w' hb rate n ts' own I' T at_ ct ao co ai ci Nt ∧ Gd own.length ts' [] ∧ Fr TX w w' ∧ ∀ q, T q → TX q ∨ w.heap.size ≤ q
set_option maxHeartbeats 4000000 in
theorem add_any {w : World} {hb rate : Nat} {n : Int} {ts : List Tr} {own : List Int} {I : List (Option Nat)} {T Nx : Nat → Prop} {at_ ao ai : Option Addr} {ct co ci : Nat} {Nt : Nat → Nat → Prop} {x : Tr}
    (h : HS w hb rate n ts own I T at_ ct ao co ai ci Nt) (hx : TM w x Nx) (hxn : x ≠ .nil) (hN : ∀ q, Nx q → ¬ T q) (hG : Gd own.length ts [x]) (hrate : rate ≤ 20) :
    Calls Try.prog 29 #[.pointer (some ⟨hb, 0, none⟩), .pointer x.ptr] w (AdPost w hb rate n own (fun q => T q ∨ Nx q) ts x I) := by
  obtain ⟨TX, hTX⟩ : ∃ TX : Nat → Prop, TX = fun q => T q ∨ Nx q := ⟨_, rfl⟩
  rw [← hTX]
  have H0 : Hid (∃ c, AdS w hb rate n own TX ts x I (.pointer x.ptr) w c) := Lib.hid ⟨_, ts, x, I, T, Nx, at_, ct, ao, co, ai, ci, Nt, rfl, hxn, h, hx, hN, hG, Fr.refl _ _, fun q hq => by rw [hTX]; exact .inl hq, fun _ _ h => h, rfl⟩
  clear h hx hxn hN hG hTX
  generalize (Value.pointer x.ptr) = v1 at *
  go_enter Try.func29, Try.ntmps29
  go_wp2_with fail
  go_loopw [1, 4] (fun s1 _ wr => Hid (∃ c, AdS w hb rate n own TX ts x I s1 wr c)) (fun s1 _ wr => least (AdS w hb rate n own TX ts x I s1 wr))
  case atStart => exact H0
  case round =>
    have hS1 := least_spec hrel.out
    obtain ⟨cn, hcn⟩ : ∃ cn, cn = least (AdS w hb rate n own TX ts x I u1 wr) := ⟨_, rfl⟩
    rw [← hcn] at hS1
    have Hcn := Lib.hid hcn
    clear hcn H0 hrel
    obtain ⟨tsr, xr, Ir, Tq, Nxr, ar, ctr, aor, cor, air, cir, Ntr, rfl, hxn, h, hx, hN, hG, hF, hT, hAd, hnn⟩ := hS1
    obtain ⟨bx, lx, rx, itx, kx, rk, sx, rfl⟩ : ∃ bx lx rx itx kx rk sx, xr = .nd bx lx rx itx kx rk sx := by
      cases xr with
      | nil => exact absurd rfl hxn
      | nd => exact ⟨_, _, _, _, _, _, _, rfl⟩
    obtain ⟨hrk, hsz⟩ := hG.rank (List.mem_cons.2 (.inl rfl))
    have HG := Lib.hid hG
    have HAd := Lib.hid (And.intro hAd hnn)
    have HPd : Hid (∃ c, PdS w hb rate n own TX tsr (.nd bx lx rx itx kx rk sx) Ir Nxr wr c) := Lib.hid ⟨_, 0, Tq, ar, ctr, aor, cor, air, cir, Ntr, by omega, by rw [pad_zero]; exact h, hx, hN, hF, hT, rfl⟩
    have htl := hG.tl
    clear hAd hnn hG h hx hN hF hT hxn
    rw [show (Tr.nd bx lx rx itx kx rk sx).ptr = some ⟨bx, 0, none⟩ from rfl]
    go_wp2_with fail
    go_loopw [5] (fun _ wr => Hid (∃ c, PdS w hb rate n own TX tsr (.nd bx lx rx itx kx rk sx) Ir Nxr wr c)) (fun _ wr => least (PdS w hb rate n own TX tsr (.nd bx lx rx itx kx rk sx) Ir Nxr wr))
    case atStart => exact HPd
    case round =>
      have hS2 := least_spec hrel.out
      obtain ⟨cp, hcp⟩ : ∃ cp, cp = least (PdS w hb rate n own TX tsr (.nd bx lx rx itx kx rk sx) Ir Nxr wr) := ⟨_, rfl⟩
      rw [← hcp] at hS2
      have Hcp := Lib.hid hcp
      clear hcp HPd hrel
      obtain ⟨j, T2, a2, ct2, ao2, co2, ai2, ci2, Nt2, hj, h, hx, hN, hF, hT, hcc⟩ := hS2
      have hj' : j ≤ rk + 1 := hj
      obtain ⟨L, hL⟩ : ∃ L, L = (pad tsr j).length := ⟨_, rfl⟩
      have hLb : L ≤ 11 := by rw [hL, pad_len]; omega
      have Hj := Lib.hid (And.intro hL (And.intro hj (And.intro hcc htl)))
      obtain ⟨_, _, _, _, _, X⟩ := id hx
      have x4 : wr.cell? ⟨bx, 4, none⟩ = some (.int .i64 rk) := X.blk.cell (i := 4) rfl
      have y1 : wr.cell? ⟨hb, 1, none⟩ = some (.slice a2 L ct2) := by rw [hL]; exact h.blk.cell (i := 1) rfl
      have z1 := h.blk.free 1
      have H1 := Lib.hid h
      have HX := Lib.hid hx
      have HN := Lib.hid hN
      have HF := Lib.hid hF
      have HT := Lib.hid hT
      clear h hx hN hF hT hcc hj hL X hj' htl
      by_cases hlt : L ≤ rk
      · go_wp2_with fail
        go_quiet (fail)
        have H2 : Hid (HS (wr.drewN nq) hb rate n (pad tsr j) own Ir T2 a2 ct2 ao2 co2 ai2 ci2 Nt2) := Lib.hid (H1.out.fr ((Fr.refl F0 wr).drewN nq) (fun _ _ => id))
        have HX2 := Lib.hid (HX.out.fr ((Fr.refl F0 wr).drewN nq) (fun _ _ => id))
        have HF2 := Lib.hid (HF.out.drewN nq)
        clear H1 HX HF x4 y1 z1
        generalize wr.drewN nq = w2 at *
        have y1 : w2.cell? ⟨hb, 1, none⟩ = some (.slice a2 L ct2) := by rw [Hj.out.1]; exact H2.out.blk.cell (i := 1) rfl
        have z1 := H2.out.blk.free 1
        have hOT : Hid (Own w2 0 60 a2 L ct2 (tps (pad tsr j))) := Lib.hid (by rw [Hj.out.1]; exact H2.out.ot)
        have hha : Hid (¬ onBlk a2 hb) := Lib.hid (fun e => (H2.out.aT hb e).2.1 rfl)
        have hblt := H2.out.lt hb H2.out.hT
        go_wp2_with (at_builtin; refine wpAppAt EP hOT.out (by omega) (by omega) (by omega) (u := .pointer none) rfl rfl rfl ?_; intro a3 c3 w3 own3 fr3 at3; have y3 : w3.cell? ⟨hb, 1, none⟩ = some (.slice a2 L ct2) := fr3.cell y1 hha.out; have z3 : w3.frozen? ⟨hb, 1, none⟩ = false := (fr3.frozen hblt hha.out).trans z1)
        have hP := H2.out.pad1 (a' := a3) (c' := c3) (by rw [← Hj.out.1]; exact own3) fr3 at3
        rw [← Hj.out.1, pad_more] at hP
        have hs3 := fr3.size
        have hs2 := HF2.out.size
        have hs1 := hP.2.size
        have HR : Hid (PdS w hb rate n own TX tsr (.nd bx lx rx itx kx rk sx) Ir Nxr (w3.setCell ⟨hb, 1, none⟩ (.slice a3 (L + 1) c3)) (rk - L)) := Lib.hid ⟨_, _, a3, c3, ao2, co2, ai2, ci2, _, by have h1 := Hj.out.1; rw [pad_len] at h1; show _ ≤ rk + 1; omega, hP.1, HX2.out.fr hP.2 (fun q hq e => HN.out q hq e), fun q hq e => e.elim (HN.out q hq) (fun e => by have := HX2.out.lt q hq; omega), HF2.out.trans hP.2 (fun q hq e => (HT.out q (.inl e)).elim id (fun e => by omega)), fun q hq => hq.elim (fun e => e.elim (fun e => HT.out q (.inl e)) (fun e => .inr (by omega))) (fun e => HT.out q (.inr e)), by have h1 := Hj.out.1; rw [pad_len] at h1 ⊢; show rk - L = rk + 1 - _; omega⟩
        clear own3 fr3 at3 hP
        go_roundw
        case rel => exact Lib.hid ⟨_, HR.out⟩
        case measure =>
          have h1 := least_le HR.out
          have h2 := Hcp.out
          have h3 := Hj.out.2.2.1
          have h4 := Hj.out.1
          rw [← h4] at h3
          have h5 : cp = rk + 1 - L := h3
          omega
      · have hts : pad tsr j = pad tsr (rk + 1) := pad_done Hj.out.2.1 (by rw [← Hj.out.1]; show rk + 1 ≤ L; omega)
        obtain ⟨t1, ht1⟩ : ∃ t1, t1 = pad tsr (rk + 1) := ⟨_, rfl⟩
        have H1 : Hid (HS wr hb rate n t1 own Ir T2 a2 ct2 ao2 co2 ai2 ci2 Nt2) := Lib.hid (by rw [ht1, ← hts]; exact H1.out)
        have hLt : L = t1.length := by rw [Hj.out.1, hts, ht1]
        have hGp : Gd own.length t1 [.nd bx lx rx itx kx rk sx] := by rw [ht1]; exact HG.out.padded (by omega)
        have hnn : nonnil t1 = cn := by rw [ht1, nonnil_pad]; exact HAd.out.2
        obtain ⟨y, hy⟩ : ∃ y, t1[rk]? = some y := ⟨_, List.getElem?_eq_getElem (by omega)⟩
        have HY := Lib.hid (And.intro hy (And.intro hGp (And.intro hnn (And.intro ht1 hLt))))
        clear hts hGp hnn ht1 hLt hy Hcp
        obtain ⟨g, rfl, _, hglt, hgc, hgf⟩ := H1.out.ot.at (by rw [← HY.out.2.2.2.2]; omega)
        have hrkL : rk < L := by omega
        have hd := hgc rk (.pointer y.ptr) (by rw [List.getElem?_map, HY.out.1]; rfl)
        have hf := hgf rk
        clear hgc hgf
        go_wp2_with fail
        go_quiet (fail)
        have H2 : Hid (HS (wr.drewN nq) hb rate n t1 own Ir T2 (some ⟨g, 0, none⟩) ct2 ao2 co2 ai2 ci2 Nt2) := Lib.hid (H1.out.fr ((Fr.refl F0 wr).drewN nq) (fun _ _ => id))
        have HX2 := Lib.hid (HX.out.fr ((Fr.refl F0 wr).drewN nq) (fun _ _ => id))
        have HF2 := Lib.hid (HF.out.drewN nq)
        have y1' : (wr.drewN nq).cell? ⟨hb, 1, none⟩ = some (.slice (some ⟨g, 0, none⟩) L ct2) := y1
        have x4' : (wr.drewN nq).cell? ⟨bx, 4, none⟩ = some (.int .i64 rk) := x4
        have hd' : (wr.drewN nq).cell? ⟨g, rk, none⟩ = some (.pointer y.ptr) := hd
        have hf' : (wr.drewN nq).frozen? ⟨g, rk, none⟩ = false := hf
        clear H1 HX HF x4 y1 z1 hd hf
        generalize wr.drewN nq = w2 at *
        go_wp2_with fail
        go_quiet (fail)
        have H3 : Hid (HS (w2.drewN nq) hb rate n t1 own Ir T2 (some ⟨g, 0, none⟩) ct2 ao2 co2 ai2 ci2 Nt2) := Lib.hid (H2.out.fr ((Fr.refl F0 w2).drewN nq) (fun _ _ => id))
        have HX3 := Lib.hid (HX2.out.fr ((Fr.refl F0 w2).drewN nq) (fun _ _ => id))
        have HF3 := Lib.hid (HF2.out.drewN nq)
        have y1 : (w2.drewN nq).cell? ⟨hb, 1, none⟩ = some (.slice (some ⟨g, 0, none⟩) L ct2) := y1'
        have x4 : (w2.drewN nq).cell? ⟨bx, 4, none⟩ = some (.int .i64 rk) := x4'
        have hd : (w2.drewN nq).cell? ⟨g, rk, none⟩ = some (.pointer y.ptr) := hd'
        have hf : (w2.drewN nq).frozen? ⟨g, rk, none⟩ = false := hf'
        clear H2 HX2 HF2 y1' x4' hd' hf' hlt
        generalize w2.drewN nq = w3 at *
        have hs3 := HF3.out.size
        cases y with
        | nil =>
          simp only [Tr.ptr] at hd
          go_wp2_with fail
          go_region
          all_goals
            go_wp2_with fail
            go_end0
            have hkl : rk < t1.length := by rw [← HY.out.2.2.2.2]; exact hrkL
            have hS := H3.out.store (x := .nd bx lx rx itx kx rk sx) hkl HX3.out HN.out
            have hFs : Fr TX w (w3.setCell ⟨g, rk, none⟩ (.pointer (Tr.ptr (.nd bx lx rx itx kx rk sx)))) := HF3.out.setCell (p := ⟨g, rk, none⟩) (fun hgl => (HT.out g (.inl (H3.out.aT g ((onBlk_some _ _ _ _).2 rfl)).1)).elim id (fun e => by have : g < w.heap.size := hgl; omega)) _
            refine ⟨_, _, fun q => T2 q ∨ Nxr q, some ⟨g, 0, none⟩, ct2, ao2, co2, ai2, ci2, fun i q => (i = rk ∧ Nxr q) ∨ (i ≠ rk ∧ Nt2 i q), rfl, HAd.out.1 _ _ (.put (x := .nd bx lx rx itx kx rk sx) ?_), ?_, (by have := HY.out.2.1.put HY.out.1; rw [HY.out.2.2.2.1] at this; exact this), hFs.drew, fun q hq => HT.out q hq⟩
            · rw [show (Tr.nd bx lx rx itx kx rk sx).rank = rk from rfl, ← HY.out.2.2.2.1]
              exact HY.out.1
            · rw [show (Tr.nd bx lx rx itx kx rk sx).rank = rk from rfl, ← HY.out.2.2.2.1]
              exact hS.fr ((Fr.refl F0 _).drew) (fun _ _ => id)
        | nd by_ ly ry ity ky rky sy =>
          simp only [Tr.ptr] at hd
          go_wp2_with fail
          go_region
          all_goals
            have hkl : rk < t1.length := by rw [← HY.out.2.2.2.2]; exact hrkL
            have hgT := (H3.out.aT g ((onBlk_some _ _ _ _).2 rfl)).1
            have hS := (H3.out.take hkl).fr ((Fr.refl F0 _).drew) (fun _ _ => id)
            have f5 : Fr (onB g) w3 (w3.setCell ⟨g, rk, none⟩ (.pointer none)).drew := ((Fr.refl (onB g) w3).setB rk _).drew
            have hHS := Lib.hid hS
            have hF5 : Hid (Fr TX w (w3.setCell ⟨g, rk, none⟩ (.pointer none)).drew) := Lib.hid (HF3.out.trans f5 (fun q hq (e : q = g) => (HT.out q (.inl (e ▸ hgT))).elim id (fun e => by omega)))
            have hTX : Hid (TM (w3.setCell ⟨g, rk, none⟩ (.pointer none)).drew (.nd bx lx rx itx kx rk sx) Nxr) := Lib.hid (HX3.out.fr f5 (fun q hq (e : q = g) => HN.out q hq (e ▸ hgT)))
            have hTY : Hid (TM (w3.setCell ⟨g, rk, none⟩ (.pointer none)).drew (.nd by_ ly ry ity ky rky sy) (Nt2 rk)) := Lib.hid ((H3.out.tm rk _ HY.out.1).fr f5 (fun q hq (e : q = g) => (H3.out.tT rk q hq).2.2.1 ((onBlk_some _ _ _ _).2 e)))
            have hs5 := f5.size
            clear hS f5 hd hf y1 x4
            generalize (w3.setCell ⟨g, rk, none⟩ (.pointer none)).drew = w5 at *
            have hyG := HY.out.2.1.out HY.out.1 (by simp)
            have hrky : rky = rk := hyG.2
            have hgy := HY.out.2.1.tr rk _ HY.out.1
            have hgx := HY.out.2.1.ex _ (List.mem_cons.2 (.inl rfl))
            have hbd := HY.out.2.1.bd
            have hlen : (Tr.ids (.nd by_ ly ry ity ky rky sy) ++ Tr.ids (.nd bx lx rx itx kx rk sx)).length ≤ own.length := by
              refine nodup_bound _ _ ?_ (fun i hi => ?_)
              · have h1 := hyG.1.nd
                simp only [flat, List.flatMap_cons, List.flatMap_nil, List.append_nil] at h1
                exact (List.nodup_append.1 h1).1
              · have h1 := hyG.1.bd i
                simp only [flat, List.flatMap_cons, List.flatMap_nil, List.append_nil, List.mem_append] at h1 hi
                exact h1 (.inl hi)
            have hitx : 0 < itx.length := List.length_pos_iff.2 hgx.2.2.1
            have hol : 0 < own.length := by
              simp only [Tr.ids, List.length_append] at hlen
              omega
            obtain ⟨ig, rfl, _, higlt, _, _⟩ := hHS.out.oi.at (by rw [hHS.out.len]; exact hol)
            have hiT := H3.out.iT ig ((onBlk_some _ _ _ _).2 rfl)
            have hm2 := HY.out.2.1.m2
            have HI5 : Hid (HI w5 hb ig Ir.length ci2 Ir (fun q => Nt2 rk q ∨ Nxr q)) := Lib.hid ⟨hHS.out.blk.cell (i := 3) rfl, hHS.out.oi, fun e => hiT.2 e.symm, fun e => e.elim (fun e => (H3.out.tT rk hb e).2.1 rfl) (fun e => HN.out hb e H3.out.hT), fun e => e.elim (fun e => (H3.out.tT rk ig e).2.2.2.2 ((onBlk_some _ _ _ _).2 rfl)) (fun e => HN.out ig e hiT.1), by have := H3.out.lt hb H3.out.hT; omega⟩
            have c0 : w5.cell? ⟨hb, 0, none⟩ = some (.int .i64 rate) := hHS.out.blk.cell (i := 0) rfl
            have HC := Lib.hid (combine_any (N := fun q => Nt2 rk q ∨ Nxr q) hTY.out hTX.out HI5.out (fun q hq e => HN.out q e (H3.out.tT rk q hq).1) (fun q hq => .inl hq) (fun q hq => .inr hq) (fun q hq => hq.elim (hTY.out.lt q) (hTX.out.lt q)) c0 hrate hgy.2.2 hgx.2.2 (by omega) (by have := hgy.2.1; have := Nat.pow_le_pow_right (n := 2) (by decide) hrk; omega) (fun i hi => by
              have h1 := hyG.1.bd i
              simp only [flat, List.flatMap_cons, List.flatMap_nil, List.append_nil, List.mem_append] at h1
              rw [hHS.out.len]
              exact h1 (.inl (List.mem_append.1 hi))) (by omega))
            go_wp2_with fail
            refine (HC.out).mono ?_
            rintro e w9 ⟨n9, z, I9, bz, sz, rfl, hsz9, hR9, hz9, T9, HI9, F9⟩
            have hs9 := F9.size
            obtain ⟨l', r', it', key', hze⟩ := hR9.shape rfl
            have hAd9 : Ad rate tsr (.nd bx lx rx itx kx rk sx) Ir = Ad rate tsr (.nd bx lx rx itx kx rk sx) Ir := rfl
            have hsw : sz = szOf rate (.nd by_ ly ry ity ky rky sy) := hsz9
            have hG9 : Gd own.length (t1.set rk .nil) [z] := by
              refine hyG.1.comb (x := .nd bx lx rx itx kx rk sx) hrky (by simp) (by simp) ?_ ?_ (by rw [hze]; simp)
              · have := hR9.perm
                simpa [Tr.ids] using this
              · rw [hze]
                rw [hze] at hz9
                refine ⟨by show rky + 1 = rk + 1; omega, ?_, hz9⟩
                have h1 := hgy.2.1
                have h2 : sz ≤ 2 * 2 ^ rk := by
                  have h3 : 1 ≤ 2 ^ rk := Nat.one_le_two_pow
                  rw [hsz9]; split <;> omega
                show sz ≤ 2 ^ (rk + 1)
                rw [Nat.pow_succ]; omega
            have hNew := Lib.hid (hHS.out.moved (by rw [HI9.len]) HI9.own F9 (fun q hq e => e.elim (fun e => e.elim (fun e => absurd e hq.2) (fun e => absurd hq.1 (HN.out q e))) id))
            have HR : Hid (AdS w hb rate n own TX ts x I (.pointer z.ptr) w9 (cn - 1)) := Lib.hid ⟨_, z, I9, _, _, _, _, _, _, _, _, _, rfl, by rw [hze]; simp, hNew.out, T9, fun q hq e => (by
                rcases hq with (hq | hq) | hq
                · exact e.2 hq
                · exact HN.out q hq e.1
                · have := H3.out.lt q e.1; omega), hG9, hF5.out.trans F9 (fun q hq e => by
                rcases e with (e | e) | e
                · exact (HT.out q (.inl (H3.out.tT rk q e).1)).elim id (fun g => by omega)
                · exact (HT.out q (.inr e)).elim id (fun g => by omega)
                · exact (HT.out q (.inl (e ▸ hiT.1))).elim id (fun g => by omega)), fun q hq => (by
                rcases hq with hq | (hq | hq) | hq
                · exact HT.out q (.inl hq.1)
                · exact HT.out q (.inl (H3.out.tT rk q hq).1)
                · exact HT.out q (.inr hq)
                · exact .inr (by omega)), fun ts' I' hA => HAd.out.1 ts' I' (.comb (y := .nd by_ ly ry ity ky rky sy) (by show (pad tsr (rk + 1))[rk]? = _; rw [← HY.out.2.2.2.1]; exact HY.out.1) (by simp) (by rw [← hsw]; show Rf n9 (.nd bz _ _ [] 0 (rk + 1) sz) Ir z I9; have e : rky + 1 = rk + 1 := (by omega); have h9 := hR9; rw [e] at h9; exact h9) (by show Ad rate ((pad tsr (rk + 1)).set rk .nil) z I9 ts' I'; rw [← HY.out.2.2.2.1]; exact hA)), by have h1 := nonnil_set HY.out.1 (by simp); have h2 := HY.out.2.2.1; omega⟩
            have hcn1 : 1 ≤ cn := by have h1 := nonnil_set HY.out.1 (by simp); have h2 := HY.out.2.2.1; omega
            clear T9 HI9 F9 hR9 hNew hG9 hze hz9 hsz9 hsw hAd9
            go_wp2_with fail
            go_roundw
            case rel => exact Lib.hid ⟨_, HR.out⟩
            case measure =>
              have h1 := least_le HR.out
              have h2 := Hcn.out
              simp only [Tr.ptr] at h2
              omega
end Go.Proofs.Ytdphademoeofkaa
