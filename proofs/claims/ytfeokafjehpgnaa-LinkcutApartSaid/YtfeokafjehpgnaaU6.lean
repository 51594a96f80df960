/- Parent, Common, Sum, Least. -/
import Derived.Test.YtfeokafjehpgnaaU5
namespace Go.Proofs.Ytfeokafjehpgnaa
open Go.RowKit
attribute [local go_sem ↓] Go.wp_at_zero Go.wp_at_succ
namespace K
theorem path_run2 {G : Vs → Prop} {P P1 : Nat → Nat} {vs : List Nat} {V : Vs} {F : List (BT × Nat)} {v w r : Nat} (hp : Par P vs) (hp1 : Par P1 vs) (hG : ∀ V' F P', (P' = P ∨ P' = P1) → Fo V' P' vs F → wt V' = wt V → G V') (h : Fo V P vs F) (hv : v ∈ vs) (hw : w ∈ vs) (hr : r ∈ vs) {lv lp : List Nat} (hlv : Way P v lv)
    (hrv : lv.head? = some r) (hvv : ∀ z ∈ lv, z ∈ vs) (h1 : Chain P1 0 lv.reverse) (h2 : ∀ z ∈ vs, z ∉ lv → P1 z = P z) (hlp : Way P1 w lp) :
    ∃ V1 m1 V2 l2 m2 V3 m3 F', EvertR G vs.length V v V1 m1 ∧ Access G vs.length V1 w V2 l2 m2 ∧ EvertR G vs.length V2 r V3 m3 ∧ Fo V3 P vs F' ∧ wt V3 = wt V ∧ m1 ≤ (vs.length + 1) * vs.length ∧ m2 ≤ (vs.length + 1) * vs.length ∧ m3 ≤ (vs.length + 1) * vs.length ∧ Kn (wt V) (V2 w) lp := by
  obtain ⟨V1, m1, F1, r1, r2, r3, r4⟩ := evert_run (P' := P1) hp (fun V' F' hf => hG V' F' _ (.inl rfl) hf) h hv hlv h1 h2
  obtain ⟨V2, l2, m2, a, F2, q1, q2, q3, q4, q5, q6, _⟩ := access_ok hp1 (fun V' F' hf hw' => hG V' F' _ (.inr rfl) hf (hw'.trans r3)) r2 hw
  have w2 : wt V2 = wt V := q4.trans r3
  have hwr : Way P1 r lv.reverse := by
    obtain ⟨o, e⟩ : ∃ o, lv = r :: o := by cases lv with
      | nil => simp at hrv
      | cons z o => simp at hrv; exact ⟨o, by rw [hrv]⟩
    have e2 : lv.reverse = o.reverse ++ [r] := by rw [e]; simp
    rw [e2] at h1 ⊢
    have := Way.chain o.reverse 0 [] r (.inl ⟨rfl, rfl⟩) h1 (fun z hz => hlv.pos z (by rw [← e2] at hz; exact List.mem_reverse.1 hz))
    simpa using this
  obtain ⟨V3, m3, F3, s1, s2, s3, s4⟩ := evert_run (P' := P) hp1 (fun V' F' hf hw' => hG V' F' _ (.inr rfl) hf (hw'.trans w2)) q2 hr hwr (by rw [List.reverse_reverse]; exact hlv.isChain) (fun z hz hzl => (h2 z hz (fun e => hzl (List.mem_reverse.2 e))).symm)
  refine ⟨V1, m1, V2, l2, m2, V3, m3, F3, r1, q1, s1, s2, s3.trans w2, r4, q6, s4, ?_⟩
  obtain ⟨_, ⟨_, _, _, _, _, hk⟩, _⟩ := q2.tr _ (List.mem_cons_self ..)
  have e : ord V2 false (.node a w .nil) = lp := by rw [hlp.uniq q5]; simp only [ord, q3]
  rw [e, w2] at hk
  exact hk
end K
section
variable {w : World} {f b n : Nat} {s : Int} {P : Nat → Nat} {wt : Nat → Int}
theorem evert_v (w : World) {f b n : Nat} {s : Int} {V Vf : K.Vs} {x m : Nat} {k : Int} (hk : k = (x : Nat)) (h : FS w f b n s V) (g : GV n V) (hx : x ∈ vts n) (hE : K.EvertR (GV n) n V x Vf m) (hm : m ≤ 3720) (hs1 : 0 ≤ s) (hs2 : s ≤ 2305843009213700000) :
    Calls Try.prog 51 #[.pointer (some ⟨f, 0, none⟩), .int .i64 k] w fun e w' => e = .returned (.tuple #[]) ∧ FS w' f b n (s + (m + 1 : Nat)) Vf ∧ Fr (onFB f b) w w' := by
  have hn := h.small
  have hx' := mem_vts.1 hx
  subst hk
  exact evert_any w h g hx'.2 hx'.1 hE (by omega) (by omega) (by omega)
theorem LF.gg (h : LF w f b n s P wt) {P1 : Nat → Nat} (hp1 : K.Par P1 (vts n)) {V : K.Vs} (k3 : K.wt V = wt) : ∀ (V' : K.Vs) (T' : List (K.BT × Nat)) (P' : Nat → Nat), (P' = P ∨ P' = P1) → K.Fo V' P' (vts n) T' → K.wt V' = K.wt V → GV n V' := by
  intro V' T' P' hP hf hw
  rcases hP with e | e
  · rw [e] at hf; exact h.gv hf (hw.trans k3)
  · rw [e] at hf; exact gv_of h.small hp1 hf (by rw [hw, k3]; exact h.wok)
/-- w's deepest ancestor that is one of v's too: c (ways from the root). -/
structure Cmn (lv lw : List Nat) (c : Nat) : Prop where
  ex : ∃ o3 o4 oS, lv = o3 ++ c :: o4 ∧ lw = o3 ++ c :: oS ∧ ∀ z ∈ oS, z ∉ o4
theorem Common_out (h : LF w f b n s P wt) {v u : Int} (hv : (outB n v || outB n u) = true) :
    Calls Try.prog 12 #[.pointer (some ⟨f, 0, none⟩), .int .i64 v, .int .i64 u] w fun e w' => e = .returned (.tuple #[.int .i64 0, .int .i64 2]) ∧ Fr F0 w w' := by
  have HL := Lib.hid h
  have HV := Lib.hid hv
  clear h hv
  go_enter Try.func12, Try.ntmps12
  go_wp2_with (go_at_call 40; refine (pair_out HL.out HV.out).mono ?_; rintro e w1 ⟨rfl, G1⟩; replace G1 := Lib.hid G1)
  go_ret2
  exact ⟨rfl, G1.out⟩
theorem Common_ne (h : LF w f b n s P wt) (hs1 : 0 ≤ s) (hs2 : s ≤ 2305843009213690000) {v u : Nat} (hv : v < n) (hu : u < n) {y z : Nat} (hy : Rt P v y) (hz : Rt P u z) (hyz : y ≠ z) :
    Calls Try.prog 12 #[.pointer (some ⟨f, 0, none⟩), .int .i64 (v : Nat), .int .i64 (u : Nat)] w fun e w' => e = .returned (.tuple #[.int .i64 0, .int .i64 12]) ∧ Kp w w' f b n s 7600 P wt := by
  have HL := Lib.hid h
  clear h
  go_enter Try.func12, Try.ntmps12
  go_wp2_with (go_at_call 40; refine (pair_ne HL.out hs1 (by omega) hv hu hy hz hyz).mono ?_; rintro e w1 ⟨rfl, K1⟩; replace K1 := Lib.hid K1)
  go_ret2
  exact ⟨rfl, K1.out⟩
set_option maxRecDepth 100000 in
set_option maxHeartbeats 1000000 in
theorem Common_ok (h : LF w f b n s P wt) (hs1 : 0 ≤ s) (hs2 : s ≤ 2305843009213680000) {v u : Nat} (hv : v < n) (hu : u < n) {lv lw : List Nat} (hlv : K.Way P (v + 1) lv) (hlw : K.Way P (u + 1) lw) (hr : lv.head? = lw.head?) :
    Calls Try.prog 12 #[.pointer (some ⟨f, 0, none⟩), .int .i64 (v : Nat), .int .i64 (u : Nat)] w fun e w' => ∃ c : Nat, e = .returned (.tuple #[.int .i64 ((c : Int) - 1), .int .i64 0]) ∧ Cmn lv lw c ∧ Kp w w' f b n s 15200 P wt := by
  have hsm := h.small
  have HL := Lib.hid h
  obtain ⟨y, hy⟩ : ∃ y, lv.head? = some y := by
    obtain ⟨o, e⟩ := hlv.last
    cases hl : lv with
    | nil => rw [hl] at e; simp at e
    | cons a l => exact ⟨a, rfl⟩
  have hy1 : Rt P v y := ⟨lv, hlv, hy⟩
  have hy2 : Rt P u y := ⟨lw, hlw, hr ▸ hy⟩
  clear h
  go_enter Try.func12, Try.ntmps12
  go_wp2_with (first
    | (go_at_call 40; refine (pair_ok HL.out hs1 (by omega) hv hu hy1 hy2 rfl).mono ?_; rintro e w1 ⟨rfl, s1, t1, t2, K1, F1⟩; replace F1 := Lib.hid F1; obtain ⟨V, T, k1, k2, k3⟩ := K1.ex; obtain ⟨V1, l1, m1, V2, c, m2, T2, r1, r2, r3, r4, r5, r6, r7⟩ := K.common_run (G := GV n) K1.par (fun V' T' h1 h2 => K1.gv h1 (h2.trans k3)) k2 (mem_succ hv) (mem_succ hu) hlv hlw hr; rw [vts_length] at r1 r2 r5 r6; have hm1 := m_le1 hsm r5; have hm2 := m_le1 hsm r6; have g0 := K1.gv k2 k3; have g1 := access_gv r1 g0; have HR := Lib.hid r1; have HR2 := Lib.hid r2; have hc : c ≤ n := (mem_vts.1 ((way_all K1.par hlw (mem_succ hu)).1 c (by obtain ⟨o3, o4, oS, _, e2, _⟩ := r7; rw [e2]; simp))).2; have hc0 := (mem_vts.1 ((way_all K1.par hlw (mem_succ hu)).1 c (by obtain ⟨o3, o4, oS, _, e2, _⟩ := r7; rw [e2]; simp))).1; replace k1 := Lib.hid k1; have HK := Lib.hid (And.intro r3 (And.intro (r4.trans k3) (Cmn.mk r7))); replace K1 := Lib.hid K1; clear r1 r2 r3 r4 r7 k2 k3 r5 r6 hy1 hy2)
    | (go_at_call 41; refine (access_v _ k1.out g0 hv HR.out hm1 (by omega) (by omega)).mono ?_; rintro e w2 ⟨rfl, S2, F2⟩; replace S2 := Lib.hid S2; replace F2 := Lib.hid F2; clear HR)
    | (go_at_call 41; refine (access_v _ S2.out g1 hu HR2.out hm2 (by omega) (by omega)).mono ?_; rintro e w3 ⟨rfl, S3, F3⟩; replace S3 := Lib.hid S3; replace F3 := Lib.hid F3; clear HR2))
  go_ret2
  exact ⟨c, rfl, HK.out.2.2, _, by omega, by omega, ⟨K1.out.par, HL.out.wok, hsm, _, _, S3.out, HK.out.1, HK.out.2.1⟩, (F1.out.trans F2.out (fun _ _ h => h)).trans F3.out (fun _ _ h => h)⟩

set_option maxRecDepth 100000 in
theorem cl_sum (w : World) {c : Nat} {i : Int} (V : K.Vx) (h : One w c 3 (.int .i64 i)) (hf : V.first ≤ 60) :
    Calls Try.prog 43 #[.agg (nine V).toArray, .pointer (some ⟨c, 0, none⟩)] w fun e w' => e = .returned (.tuple #[]) ∧ One w' c 3 (.int .i64 V.sum) ∧ Fr (fun k => k = c) w w' := by
  have h0 := h.cell
  have h1 := h.free
  have hl := h.lt
  have hl1 : c < w.heap.size + 1 := by omega
  have hne : c ≠ w.heap.size := by omega
  have hB := Blk.new w 66 (nine V)
  have b5 := hB.cell (i := 5) rfl
  have b7 := hB.cell (i := 7) rfl
  have H := Lib.hid h
  clear h
  unfold nine at b5 b7 ⊢
  clear hB
  go_enter Try.func43, Try.ntmps43
  go_wp2_with fail
  go_end0
  exact ⟨rfl, (H.out.set _).alloc _, (Fr.setCell (S := fun k => k = c) (Fr.refl _ w) (p := ⟨c, 0, none⟩) (fun _ => rfl) _).alloc _⟩

set_option maxRecDepth 100000 in
theorem cl_least (w : World) {c : Nat} {i : Int} (V : K.Vx) (h : One w c 3 (.int .i64 i)) (hf : V.first ≤ 60) :
    Calls Try.prog 44 #[.agg (nine V).toArray, .pointer (some ⟨c, 0, none⟩)] w fun e w' => e = .returned (.tuple #[]) ∧ One w' c 3 (.int .i64 ((V.first : Int) - 1)) ∧ Fr (fun k => k = c) w w' := by
  have h0 := h.cell
  have h1 := h.free
  have hl := h.lt
  have hl1 : c < w.heap.size + 1 := by omega
  have hne : c ≠ w.heap.size := by omega
  have hB := Blk.new w 66 (nine V)
  have b5 := hB.cell (i := 5) rfl
  have b7 := hB.cell (i := 7) rfl
  have H := Lib.hid h
  clear h
  unfold nine at b5 b7 ⊢
  clear hB
  go_enter Try.func44, Try.ntmps44
  go_wp2_with fail
  go_end0
  exact ⟨rfl, (H.out.set _).alloc _, (Fr.setCell (S := fun k => k = c) (Fr.refl _ w) (p := ⟨c, 0, none⟩) (fun _ => rfl) _).alloc _⟩

set_option maxRecDepth 100000 in
set_option maxHeartbeats 2000000 in
theorem path_sum (h : LF w f b n s P wt) (hs1 : 0 ≤ s) (hs2 : s ≤ 2305843009213670000) {v u : Nat} (hv : v < n) (hu : u < n) {lv lp : List Nat} {r : Nat} (hlv : K.Way P (v + 1) lv) (hr : lv.head? = some r) {P1 : Nat → Nat} (h1 : K.Chain P1 0 lv.reverse) (h2 : ∀ z ∈ vts n, z ∉ lv → P1 z = P z) (hlp : K.Way P1 (u + 1) lp)
    {c : Nat} {i : Int} (ho : One w c 3 (.int .i64 i)) (hcf : c ≠ f) (hcb : c ≠ b) :
    Calls Try.prog 42 #[.pointer (some ⟨f, 0, none⟩), .int .i64 (v : Nat), .int .i64 (u : Nat), .func (.func 43) #[] #[.pointer (some ⟨c, 0, none⟩)]] w fun e w' => e = .returned (.tuple #[]) ∧ One w' c 3 (.int .i64 ((lp.map wt).sum)) ∧
      ∃ s', s ≤ s' ∧ s' ≤ s + 19000 ∧ LF w' f b n s' P wt ∧ Fr (fun k => onFB f b k ∨ k = c) w w' := by
  have hsm := h.small
  have HL := Lib.hid h
  have hy : Rt P v r := ⟨lv, hlv, hr⟩
  have hall := (way_all h.par hlv (mem_succ hv)).1
  have hrm : r ∈ vts n := hall r (List.mem_of_mem_head? hr)
  have hp1 : K.Par P1 (vts n) := K.par_evert h.par (mem_succ hv) hlv hall h1 h2
  have HO := Lib.hid ho
  have HP := Lib.hid (And.intro hlv (And.intro hr (And.intro hall (And.intro h1 (And.intro h2 (And.intro hlp hp1))))))
  have bu : (u : Int) + 1 < (n : Int) + 1 := by omega
  have ev : (v : Int) + 1 = ((v + 1 : Nat) : Int) := by omega
  have EV := Lib.hid ev
  clear h ho hlv hr hall h1 h2 hlp hp1 ev
  go_enter Try.func42, Try.ntmps42
  go_wp2_with (first
    | (go_at_call 50; refine (LF.rootv HL.out hs1 (by omega) hv hy).mono ?_; rintro e w1 ⟨rfl, s1, t1, t2, K1, F1⟩; replace F1 := Lib.hid F1; clear hy; obtain ⟨V, T, k1, k2, k3⟩ := K1.ex; obtain ⟨V1, m1, V2, l2, m2, V3, m3, T3, r1, r2, r3, r4, r5, r6, r7, r8, r9⟩ := K.path_run2 (G := GV n) K1.par HP.out.2.2.2.2.2.2 (K1.gg HP.out.2.2.2.2.2.2 k3) k2 (mem_succ hv) (mem_succ hu) hrm HP.out.1 HP.out.2.1 HP.out.2.2.1 HP.out.2.2.2.1 HP.out.2.2.2.2.1 HP.out.2.2.2.2.2.1; rw [vts_length] at r1 r2 r3 r6 r7 r8; have hm1 := m_le1 hsm r6; have hm2 := m_le1 hsm r7; have hm3 := m_le1 hsm r8; have g0 := K1.gv k2 k3; have g1 : GV n V1 := (by obtain ⟨V4, l4, q1, q2⟩ := r1; rw [q2]; exact ((access_gv q1 g0).turn _).push _); have g2 := access_gv r2 g1; have R1 := Lib.hid r1; have R2 := Lib.hid r2; have R3 := Lib.hid r3; replace k1 := Lib.hid k1; have HK := Lib.hid (And.intro r4 (And.intro (r5.trans k3) (k3 ▸ r9))); replace K1 := Lib.hid K1; clear r1 r2 r3 r4 r5 r9 k2 k3 r6 r7 r8)
    | (go_at_call 51; refine (evert_v _ EV.out k1.out g0 (mem_succ hv) R1.out hm1 (by omega) (by omega)).mono ?_; rintro e w2 ⟨rfl, S2, F2⟩; replace S2 := Lib.hid S2; replace F2 := Lib.hid F2; clear R1)
    | (go_at_call 41; refine (access_v _ S2.out g1 hu R2.out hm2 (by omega) (by omega)).mono ?_; rintro e w3 ⟨rfl, S3, F3⟩; replace F3 := Lib.hid F3; clear R2; have y0 := S3.fb.cell (i := 0) rfl; have c0 := S3.c0 (x := u + 1) (by omega); have c1 := S3.c1 (x := u + 1) (by omega); have c2 := S3.c2 (x := u + 1) (by omega); have c3 := S3.c3 (x := u + 1) (by omega); have c4 := S3.c4 (x := u + 1) (by omega); have c5 := S3.c5 (x := u + 1) (by omega); have c6 := S3.c6 (x := u + 1) (by omega); have c7 := S3.c7 (x := u + 1) (by omega); have c8 := S3.c8 (x := u + 1) (by omega); have O3 := Lib.hid (((HO.out.fr F1.out (fun e => e.elim hcf hcb)).fr F2.out (fun e => e.elim hcf hcb)).fr F3.out (fun e => e.elim hcf hcb)); have hfn : (V2 (u + 1)).first ≤ 60 := Nat.le_trans (g2.first (u + 1) (by omega)) hsm; have HS := Lib.hid S3; clear S3)
    | (go_at_call 43; refine (cl_sum _ (V2 (u + 1)) O3.out hfn).mono ?_; rintro e w4 ⟨rfl, O4, F4⟩; replace O4 := Lib.hid O4; replace F4 := Lib.hid F4; clear y0 c0 c1 c2 c3 c4 c5 c6 c7 c8)
    | (go_at_call 51; refine (evert_v _ rfl (HS.out.fr F4.out (fun e => hcf e.symm) (fun e => hcb e.symm)) g2 hrm R3.out hm3 (by omega) (by omega)).mono ?_; rintro e w5 ⟨rfl, S5, F5⟩; replace S5 := Lib.hid S5; replace F5 := Lib.hid F5; clear R3))
  go_end0
  have hkn := HK.out.2.2
  refine ⟨rfl, ?_, _, by omega, by omega, ⟨HL.out.par, HL.out.wok, hsm, _, _, S5.out, HK.out.1, HK.out.2.1⟩, ?_⟩
  · have := O4.out.fr F5.out (fun e => e.elim hcf hcb)
    rw [hkn.sum] at this
    exact this
  · have G := ((F1.out.trans F2.out (fun _ _ h => h)).trans F3.out (fun _ _ h => h)).mono (S' := fun k => onFB f b k ∨ k = c) (fun _ _ h => .inl h)
    exact (G.trans F4.out (fun _ _ h => .inr h)).trans F5.out (fun _ _ h => .inl h)

set_option maxRecDepth 100000 in
set_option maxHeartbeats 2000000 in
theorem path_least (h : LF w f b n s P wt) (hs1 : 0 ≤ s) (hs2 : s ≤ 2305843009213670000) {v u : Nat} (hv : v < n) (hu : u < n) {lv lp : List Nat} {r : Nat} (hlv : K.Way P (v + 1) lv) (hr : lv.head? = some r) {P1 : Nat → Nat} (h1 : K.Chain P1 0 lv.reverse) (h2 : ∀ z ∈ vts n, z ∉ lv → P1 z = P z) (hlp : K.Way P1 (u + 1) lp)
    {c : Nat} {i : Int} (ho : One w c 3 (.int .i64 i)) (hcf : c ≠ f) (hcb : c ≠ b) :
    Calls Try.prog 42 #[.pointer (some ⟨f, 0, none⟩), .int .i64 (v : Nat), .int .i64 (u : Nat), .func (.func 44) #[] #[.pointer (some ⟨c, 0, none⟩)]] w fun e w' => e = .returned (.tuple #[]) ∧ One w' c 3 (.int .i64 (((K.fm wt lp : Nat) : Int) - 1)) ∧
      ∃ s', s ≤ s' ∧ s' ≤ s + 19000 ∧ LF w' f b n s' P wt ∧ Fr (fun k => onFB f b k ∨ k = c) w w' := by
  have hsm := h.small
  have HL := Lib.hid h
  have hy : Rt P v r := ⟨lv, hlv, hr⟩
  have hall := (way_all h.par hlv (mem_succ hv)).1
  have hrm : r ∈ vts n := hall r (List.mem_of_mem_head? hr)
  have hp1 : K.Par P1 (vts n) := K.par_evert h.par (mem_succ hv) hlv hall h1 h2
  have HO := Lib.hid ho
  have HP := Lib.hid (And.intro hlv (And.intro hr (And.intro hall (And.intro h1 (And.intro h2 (And.intro hlp hp1))))))
  have bu : (u : Int) + 1 < (n : Int) + 1 := by omega
  have ev : (v : Int) + 1 = ((v + 1 : Nat) : Int) := by omega
  have EV := Lib.hid ev
  clear h ho hlv hr hall h1 h2 hlp hp1 ev
  go_enter Try.func42, Try.ntmps42
  go_wp2_with (first
    | (go_at_call 50; refine (LF.rootv HL.out hs1 (by omega) hv hy).mono ?_; rintro e w1 ⟨rfl, s1, t1, t2, K1, F1⟩; replace F1 := Lib.hid F1; clear hy; obtain ⟨V, T, k1, k2, k3⟩ := K1.ex; obtain ⟨V1, m1, V2, l2, m2, V3, m3, T3, r1, r2, r3, r4, r5, r6, r7, r8, r9⟩ := K.path_run2 (G := GV n) K1.par HP.out.2.2.2.2.2.2 (K1.gg HP.out.2.2.2.2.2.2 k3) k2 (mem_succ hv) (mem_succ hu) hrm HP.out.1 HP.out.2.1 HP.out.2.2.1 HP.out.2.2.2.1 HP.out.2.2.2.2.1 HP.out.2.2.2.2.2.1; rw [vts_length] at r1 r2 r3 r6 r7 r8; have hm1 := m_le1 hsm r6; have hm2 := m_le1 hsm r7; have hm3 := m_le1 hsm r8; have g0 := K1.gv k2 k3; have g1 : GV n V1 := (by obtain ⟨V4, l4, q1, q2⟩ := r1; rw [q2]; exact ((access_gv q1 g0).turn _).push _); have g2 := access_gv r2 g1; have R1 := Lib.hid r1; have R2 := Lib.hid r2; have R3 := Lib.hid r3; replace k1 := Lib.hid k1; have HK := Lib.hid (And.intro r4 (And.intro (r5.trans k3) (k3 ▸ r9))); replace K1 := Lib.hid K1; clear r1 r2 r3 r4 r5 r9 k2 k3 r6 r7 r8)
    | (go_at_call 51; refine (evert_v _ EV.out k1.out g0 (mem_succ hv) R1.out hm1 (by omega) (by omega)).mono ?_; rintro e w2 ⟨rfl, S2, F2⟩; replace S2 := Lib.hid S2; replace F2 := Lib.hid F2; clear R1)
    | (go_at_call 41; refine (access_v _ S2.out g1 hu R2.out hm2 (by omega) (by omega)).mono ?_; rintro e w3 ⟨rfl, S3, F3⟩; replace F3 := Lib.hid F3; clear R2; have y0 := S3.fb.cell (i := 0) rfl; have c0 := S3.c0 (x := u + 1) (by omega); have c1 := S3.c1 (x := u + 1) (by omega); have c2 := S3.c2 (x := u + 1) (by omega); have c3 := S3.c3 (x := u + 1) (by omega); have c4 := S3.c4 (x := u + 1) (by omega); have c5 := S3.c5 (x := u + 1) (by omega); have c6 := S3.c6 (x := u + 1) (by omega); have c7 := S3.c7 (x := u + 1) (by omega); have c8 := S3.c8 (x := u + 1) (by omega); have O3 := Lib.hid (((HO.out.fr F1.out (fun e => e.elim hcf hcb)).fr F2.out (fun e => e.elim hcf hcb)).fr F3.out (fun e => e.elim hcf hcb)); have hfn : (V2 (u + 1)).first ≤ 60 := Nat.le_trans (g2.first (u + 1) (by omega)) hsm; have HS := Lib.hid S3; clear S3)
    | (go_at_call 44; refine (cl_least _ (V2 (u + 1)) O3.out hfn).mono ?_; rintro e w4 ⟨rfl, O4, F4⟩; replace O4 := Lib.hid O4; replace F4 := Lib.hid F4; clear y0 c0 c1 c2 c3 c4 c5 c6 c7 c8)
    | (go_at_call 51; refine (evert_v _ rfl (HS.out.fr F4.out (fun e => hcf e.symm) (fun e => hcb e.symm)) g2 hrm R3.out hm3 (by omega) (by omega)).mono ?_; rintro e w5 ⟨rfl, S5, F5⟩; replace S5 := Lib.hid S5; replace F5 := Lib.hid F5; clear R3))
  go_end0
  have hkn := HK.out.2.2
  refine ⟨rfl, ?_, _, by omega, by omega, ⟨HL.out.par, HL.out.wok, hsm, _, _, S5.out, HK.out.1, HK.out.2.1⟩, ?_⟩
  · have := O4.out.fr F5.out (fun e => e.elim hcf hcb)
    rw [hkn.first] at this
    exact this
  · have G := ((F1.out.trans F2.out (fun _ _ h => h)).trans F3.out (fun _ _ h => h)).mono (S' := fun k => onFB f b k ∨ k = c) (fun _ _ h => .inl h)
    exact (G.trans F4.out (fun _ _ h => .inr h)).trans F5.out (fun _ _ h => .inl h)

theorem Sum_out (h : LF w f b n s P wt) {v u : Int} (hv : (outB n v || outB n u) = true) :
    Calls Try.prog 13 #[.pointer (some ⟨f, 0, none⟩), .int .i64 v, .int .i64 u] w fun e w' => e = .returned (.tuple #[.int .i64 0, .int .i64 2]) ∧ Fr F0 w w' := by
  have HL := Lib.hid h
  have HV := Lib.hid hv
  clear h hv
  go_enter Try.func13, Try.ntmps13
  go_wp2_with (go_at_call 40; refine (pair_out HL.out HV.out).mono ?_; rintro e w1 ⟨rfl, G1⟩; replace G1 := Lib.hid G1)
  go_ret2
  exact ⟨rfl, G1.out⟩
theorem Sum_ne (h : LF w f b n s P wt) (hs1 : 0 ≤ s) (hs2 : s ≤ 2305843009213690000) {v u : Nat} (hv : v < n) (hu : u < n) {y z : Nat} (hy : Rt P v y) (hz : Rt P u z) (hyz : y ≠ z) :
    Calls Try.prog 13 #[.pointer (some ⟨f, 0, none⟩), .int .i64 (v : Nat), .int .i64 (u : Nat)] w fun e w' => e = .returned (.tuple #[.int .i64 0, .int .i64 12]) ∧ Kp w w' f b n s 7600 P wt := by
  have HL := Lib.hid h
  clear h
  go_enter Try.func13, Try.ntmps13
  go_wp2_with (go_at_call 40; refine (pair_ne HL.out hs1 (by omega) hv hu hy hz hyz).mono ?_; rintro e w1 ⟨rfl, K1⟩; replace K1 := Lib.hid K1)
  go_ret2
  exact ⟨rfl, K1.out⟩
theorem Sum_ok (h : LF w f b n s P wt) (hs1 : 0 ≤ s) (hs2 : s ≤ 2305843009213660000) {v u : Nat} (hv : v < n) (hu : u < n) {lv lp : List Nat} {r : Nat} (hlv : K.Way P (v + 1) lv) (hr : lv.head? = some r) (hru : Rt P u r) {P1 : Nat → Nat} (h1 : K.Chain P1 0 lv.reverse) (h2 : ∀ z ∈ vts n, z ∉ lv → P1 z = P z) (hlp : K.Way P1 (u + 1) lp) :
    Calls Try.prog 13 #[.pointer (some ⟨f, 0, none⟩), .int .i64 (v : Nat), .int .i64 (u : Nat)] w fun e w' => e = .returned (.tuple #[.int .i64 ((lp.map wt).sum), .int .i64 0]) ∧ Kp w w' f b n s 26600 P wt := by
  have HL := Lib.hid h
  have HH := Lib.hid (And.intro hlv (And.intro hr (And.intro hru (And.intro h1 (And.intro h2 hlp)))))
  obtain ⟨hf, hb⟩ := h.bounds
  clear h hlv hr hru h1 h2 hlp
  go_enter Try.func13, Try.ntmps13
  go_wp2_with (first
    | (go_at_call 40; refine (pair_ok HL.out hs1 (by omega) hv hu ⟨_, HH.out.1, HH.out.2.1⟩ HH.out.2.2.1 rfl).mono ?_; rintro e w1 ⟨rfl, s1, t1, t2, K1, F1⟩; have hsz := F1.size; replace K1 := Lib.hid K1; replace F1 := Lib.hid F1)
    | (go_at_call 42; refine (path_sum (K1.out.fr0 ((Fr.refl _ _).alloc _)) (by omega) (by omega) hv hu HH.out.1 HH.out.2.1 HH.out.2.2.2.1 HH.out.2.2.2.2.1 HH.out.2.2.2.2.2 (One.new _ _) (by omega) (by omega)).mono ?_; rintro e w2 ⟨rfl, O2, s2, t3, t4, K2, F2⟩; have o2 := O2.cell; replace O2 := Lib.hid O2; replace K2 := Lib.hid K2; replace F2 := Lib.hid F2))
  go_ret2
  refine ⟨rfl, s2, by omega, by omega, K2.out, ?_⟩
  have G := ((Fr.refl F0 w1).alloc (.cells #[.int .i64 0] 3)).mono (S' := fun k => onFB f b k) (fun _ _ h => h.elim)
  refine (F1.out.trans G (fun _ _ h => h)).trans F2.out (fun k hk h => ?_)
  rcases h with h | h
  · exact h
  · omega

theorem Least_out (h : LF w f b n s P wt) {v u : Int} (hv : (outB n v || outB n u) = true) :
    Calls Try.prog 14 #[.pointer (some ⟨f, 0, none⟩), .int .i64 v, .int .i64 u] w fun e w' => e = .returned (.tuple #[.int .i64 0, .int .i64 2]) ∧ Fr F0 w w' := by
  have HL := Lib.hid h
  have HV := Lib.hid hv
  clear h hv
  go_enter Try.func14, Try.ntmps14
  go_wp2_with (go_at_call 40; refine (pair_out HL.out HV.out).mono ?_; rintro e w1 ⟨rfl, G1⟩; replace G1 := Lib.hid G1)
  go_ret2
  exact ⟨rfl, G1.out⟩
theorem Least_ne (h : LF w f b n s P wt) (hs1 : 0 ≤ s) (hs2 : s ≤ 2305843009213690000) {v u : Nat} (hv : v < n) (hu : u < n) {y z : Nat} (hy : Rt P v y) (hz : Rt P u z) (hyz : y ≠ z) :
    Calls Try.prog 14 #[.pointer (some ⟨f, 0, none⟩), .int .i64 (v : Nat), .int .i64 (u : Nat)] w fun e w' => e = .returned (.tuple #[.int .i64 0, .int .i64 12]) ∧ Kp w w' f b n s 7600 P wt := by
  have HL := Lib.hid h
  clear h
  go_enter Try.func14, Try.ntmps14
  go_wp2_with (go_at_call 40; refine (pair_ne HL.out hs1 (by omega) hv hu hy hz hyz).mono ?_; rintro e w1 ⟨rfl, K1⟩; replace K1 := Lib.hid K1)
  go_ret2
  exact ⟨rfl, K1.out⟩
theorem Least_ok (h : LF w f b n s P wt) (hs1 : 0 ≤ s) (hs2 : s ≤ 2305843009213660000) {v u : Nat} (hv : v < n) (hu : u < n) {lv lp : List Nat} {r : Nat} (hlv : K.Way P (v + 1) lv) (hr : lv.head? = some r) (hru : Rt P u r) {P1 : Nat → Nat} (h1 : K.Chain P1 0 lv.reverse) (h2 : ∀ z ∈ vts n, z ∉ lv → P1 z = P z) (hlp : K.Way P1 (u + 1) lp) :
    Calls Try.prog 14 #[.pointer (some ⟨f, 0, none⟩), .int .i64 (v : Nat), .int .i64 (u : Nat)] w fun e w' => e = .returned (.tuple #[.int .i64 (((K.fm wt lp : Nat) : Int) - 1), .int .i64 0]) ∧ Kp w w' f b n s 26600 P wt := by
  have HL := Lib.hid h
  have HH := Lib.hid (And.intro hlv (And.intro hr (And.intro hru (And.intro h1 (And.intro h2 hlp)))))
  obtain ⟨hf, hb⟩ := h.bounds
  clear h hlv hr hru h1 h2 hlp
  go_enter Try.func14, Try.ntmps14
  go_wp2_with (first
    | (go_at_call 40; refine (pair_ok HL.out hs1 (by omega) hv hu ⟨_, HH.out.1, HH.out.2.1⟩ HH.out.2.2.1 rfl).mono ?_; rintro e w1 ⟨rfl, s1, t1, t2, K1, F1⟩; have hsz := F1.size; replace K1 := Lib.hid K1; replace F1 := Lib.hid F1)
    | (go_at_call 42; refine (path_least (K1.out.fr0 ((Fr.refl _ _).alloc _)) (by omega) (by omega) hv hu HH.out.1 HH.out.2.1 HH.out.2.2.2.1 HH.out.2.2.2.2.1 HH.out.2.2.2.2.2 (One.new _ _) (by omega) (by omega)).mono ?_; rintro e w2 ⟨rfl, O2, s2, t3, t4, K2, F2⟩; have o2 := O2.cell; replace O2 := Lib.hid O2; replace K2 := Lib.hid K2; replace F2 := Lib.hid F2))
  go_ret2
  refine ⟨rfl, s2, by omega, by omega, K2.out, ?_⟩
  have G := ((Fr.refl F0 w1).alloc (.cells #[.int .i64 0] 3)).mono (S' := fun k => onFB f b k) (fun _ _ h => h.elim)
  refine (F1.out.trans G (fun _ _ h => h)).trans F2.out (fun k hk h => ?_)
  rcases h with h | h
  · exact h
  · omega

end
end Go.Proofs.Ytfeokafjehpgnaa
