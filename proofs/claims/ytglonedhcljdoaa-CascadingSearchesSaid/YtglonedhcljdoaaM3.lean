/- The end of a round of Make. -/
import Derived.Test.YtglonedhcljdoaaM2
namespace Go.Proofs.Ytglonedhcljdoaa
open Go.RowKit

theorem end_facts {w wo v w5 w6 : World} {g b6 n m nn : Nat} {an : Option Addr} {L : List (List Int)} {hs : List Value} (O : OL w wo g b6 n (m + 1) an nn L hs) (hLn : L.length = n) (hmn : m < n) (F1 : Fr F0 wo v)
    {ra ka : Option Addr} {rc kc kn cap g2 : Nat} {vo vt : Int} (hkn : kn = (kq L m).length) (hvo : vo = (cO (kq L m) : Int)) (hvt : vt = (cT (kq L m) : Int))
    (M : MS (WM v) w.heap.size v.heap.size (v.heap.size + 1) (v.heap.size + 1 + 1) g n m hs ra rc ka kc (kq L m) w5) (F6 : Fr (onBlk ra) w5 w6)
    (hown6 : OwnZ w6 (WM v).heap.size 51 3 (some ⟨g2, 0, none⟩) (kn + 1) cap (tri (entP (kq L m)) ++ [.int .i64 0, .int .i64 vo, .int .i64 vt])) :
    OL w ((w6.setCell ⟨g, m, none⟩ (.slice (some ⟨g2, 0, none⟩) (kn + 1) cap)).alloc (.cells #[.int .i64 ((m : Int) - 1)] 3)) g w6.heap.size n m ka kn L (hs.set m (.slice (some ⟨g2, 0, none⟩) (kn + 1) cap)) := by
  obtain ⟨_, _, _, hsz, FW⟩ := wm_facts v
  have s1 := F1.size
  have s2 := O.k4.lt
  have s3 := M.fr.size
  have s4 := F6.size
  have hg := O.wg
  have rb := M.ro.blk
  have F7 : Fr (onB g) w6 (w6.setCell ⟨g, m, none⟩ (.slice (some ⟨g2, 0, none⟩) (kn + 1) cap)) := (Fr.refl _ _).setB m _
  have s7 : (w6.setCell ⟨g, m, none⟩ (.slice (some ⟨g2, 0, none⟩) (kn + 1) cap)).heap.size = w6.heap.size := by simp
  have g2b := hown6.blk g2 ((onBlk_some _ _ _ _).2 rfl)
  have lg := M.lg
  have h7 := ((M.hd.fr F6 (fun k hk h => by rw [(onBlk_some _ _ _ _).1 hk] at h; have := (rb _ h).1; omega)).set (i := m) (.slice (some ⟨g2, 0, none⟩) (kn + 1) cap))
  rw [List.set_set] at h7
  have r7 := OwnZ.other (p := ⟨g, m, none⟩) hown6 (fun h => by have := (onBlk_some _ _ _ _).1 h; simp at this; omega) (.slice (some ⟨g2, 0, none⟩) (kn + 1) cap)
  have kb := M.ko.blk
  have a7 := (M.ko.fr F6 (fun k hk h => M.ap k h hk)).other (p := ⟨g, m, none⟩) (fun h => by have := (kb _ h).1; simp at this; omega) (.slice (some ⟨g2, 0, none⟩) (kn + 1) cap)
  have F17 : Fr (onB g) wo (w6.setCell ⟨g, m, none⟩ (.slice (some ⟨g2, 0, none⟩) (kn + 1) cap)) :=
    (((((F1.trans0 FW).mono (S' := onB g) (fun _ _ h => h.elim)).trans M.fr (fun k hk h => by
      have h' : k = v.heap.size ∨ k = v.heap.size + 1 ∨ k = v.heap.size + 1 + 1 ∨ k = g := h
      show k = g
      omega)).trans F6 (fun k hk h => by have := (rb k h).1; omega))).trans F7 (fun k hk h => h)
  generalize w6.setCell ⟨g, m, none⟩ (.slice (some ⟨g2, 0, none⟩) (kn + 1) cap) = w7 at *
  rw [← s7]
  have F8 : Fr (onB w7.heap.size) w7 (w7.alloc (.cells #[.int .i64 ((m : Int) - 1)] 3)) := (Fr.refl _ _).alloc _
  have k8 : One (w7.alloc (.cells #[.int .i64 ((m : Int) - 1)] 3)) w7.heap.size 3 (.int .i64 ((m : Int) - 1)) := heap_alloc_new _ _
  have F : Fr (onB g) wo (w7.alloc (.cells #[.int .i64 ((m : Int) - 1)] 3)) := F17.trans F8 (fun k hk h => by have h' : k = w7.heap.size := h; omega)
  have nb : ∀ {k}, k < w7.heap.size → ¬ onB w7.heap.size k := fun hk h => by have h' : _ = w7.heap.size := h; omega
  refine ⟨k8, by omega, O.k4.fr F (fun h => by have h' : g + 1 + 1 = g := h; omega), (F.block (g + 1) (by omega) (fun h => by have h' : g + 1 = g := h; omega)).trans O.kg, ?_,
    h7.fr F8 (fun k hk => by rw [(onBlk_some _ _ _ _).1 hk]; exact nb (by omega)), ?_, ?_, O.fr.trans F (fun k hk h => by have h' : k = g := h; omega), hg⟩
  · rw [hkn]; exact (a7.fr F8 (fun k hk => nb (by have := (kb k hk).2; omega))).rd
  · intro j h1 h2
    by_cases hj : j = m
    · subst hj
      refine ⟨some ⟨g2, 0, none⟩, cap, ?_, ?_, ?_, ?_⟩
      · rw [List.getElem?_set_self (by have := O.hd.len; omega), hkn]
      · have e : tri (entL (kq L j)) = tri (entP (kq L j)) ++ [.int .i64 0, .int .i64 vo, .int .i64 vt] := by
          unfold entL; rw [tri_append, hvo, hvt]; rfl
        rw [e, ← hkn]
        exact (r7.fr F8 (fun k hk => by rw [(onBlk_some _ _ _ _).1 hk]; exact nb (by omega))).mono (by omega)
      · intro h; have := (onBlk_some _ _ _ _).1 h; omega
      · intro h; have := (onBlk_some _ _ _ _).1 h; omega
    · exact (O.rows j (by omega) h2).fr F (fun k _ _ hk _ h => hk h) _ (.inr (by have := F17.size; omega)) (by rw [List.getElem?_set_ne (by omega)])
  · intro j hj
    rw [List.getElem?_set_ne (by omega)]
    exact O.lo j (by omega)
/-- Behind the last round. -/
theorem done_facts {w wo : World} {g b6 n nn : Nat} {an : Option Addr} {L : List (List Int)} {hs : List Value} (O : OL w wo g b6 n 0 an nn L hs) (hLn : L.length = n) (hck : checkC L = 0) :
    MkPost L w (.returned (.tuple #[.pointer (some ⟨g + 1, 0, none⟩), .int .i64 0])) wo := by
  have hg := O.wg
  refine ⟨O.fr, .inr ⟨hck, g + 1, g, hs, rfl, ⟨by rw [hLn]; exact O.kg, by rw [hLn]; exact O.hd.rd, by omega, hg, by omega, ?_⟩⟩⟩
  intro j hj
  obtain ⟨ra, rc, h1, h2, h3, h4⟩ := O.rows j (Nat.zero_le _) hj
  exact ⟨ra, rc, h1, h2.rd, fun k hk => by have := (h2.blk k hk).1; omega, h2.cap⟩

end Go.Proofs.Ytglonedhcljdoaa
