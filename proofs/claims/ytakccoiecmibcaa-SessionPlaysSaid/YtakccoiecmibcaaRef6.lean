/- The reference's list grows by a session. -/
import Derived.Test.YtakccoiecmibcaaRef5
namespace Go.Proofs.Ytakccoiecmibcaa
open Go.RowKit Go.Maps

theorem RefAt.push {w w5 w6 : World} {qb : Nat} {idle abs : Int} {a a6 : Option Addr} {cap c6 : Nat} {Y : List EP} (h : RefAt w qb idle abs a cap Y) {e : EP} (k5 : Kept [] w w5) (hl : KL w5 e) (hn : ∀ j, j ∈ fp e.pa ∨ j ∈ fp e.ca → w.heap.size ≤ j) (k6 : Kept (fp a) w5 w6) {M : List EP} (hM : M = Y ++ [e]) (hrow : w6.ownsRow 0 87 10 (.slice a6 M.length c6) M.length (rowV encK M)) (f6 : ∀ i ∈ fp a6, i ∈ fp a ∨ w5.heap.size ≤ i) (few : Y.length < 256) (hinv : Inv idle abs e.x) (hword : wordB e.id = true) (hnew : alook (absK Y) e.id = none) :
    RLeft w (w6.setCell ⟨qb, 3, none⟩ (.slice a6 M.length c6)) qb idle abs a Y (absK Y ++ [(e.id, e.x)]) := by
  subst hM
  have h5 := h.keptN k5
  have kq : Kept [qb] w6 (w6.setCell ⟨qb, 3, none⟩ (.slice a6 (Y ++ [e]).length c6)) := (Kept.refl [qb] w6).setCell (.inl (by simp)) _
  have hq5 : qb < w5.heap.size := lt_of_heap h5.blk
  have hqw : qb < w.heap.size := lt_of_heap h.blk
  have hq6 := k6.at h5.blk h.g_ne
  have hgt : ∀ e, KL w5 e → ∀ j, j ∈ fp e.pa ∨ j ∈ fp e.ca → j ∉ fp a ∧ j ≠ qb := fun e he j hj => by
    obtain ⟨cur, t, hc, ht, ht2⟩ := he.blk j hj
    refine ⟨fun hm => ?_, fun hm => ?_⟩
    · obtain ⟨cur2, hc2⟩ := row_blk h5.row j hm
      rw [hc] at hc2
      injection hc2 with hc2
      injection hc2 with _ hc2 _
      exact ht hc2
    · subst hm
      rw [h5.blk] at hc
      injection hc with hc
      injection hc with _ hc _
      exact ht2 hc.symm
  have hU : absK (Y ++ [e]) = absK Y ++ [(e.id, e.x)] := by simp [absK]
  refine ⟨a6, c6, Y ++ [e], ⟨?_, ?_, fun x hx => ?_, by simp; omega, ?_⟩, hU, ?_, fun j hj => ?_⟩
  · exact heap_setCell_same _ _ 3 _ _ _ hq6
  · refine row_kept hrow kq (fun i hi hm => ?_)
    simp at hm
    subst hm
    rcases f6 i hi with e | e
    · exact h.g_ne e
    · omega
  · have hE : KL w5 x := by
      rcases List.mem_append.1 hx with hx | hx
      · exact h5.each x hx
      · simp at hx; subst hx; exact hl
    exact ⟨(hE.1.kept k6 (fun j hj => (hgt x hE j (.inl hj)).1)).kept kq (fun j hj hm => (hgt x hE j (.inl hj)).2 (by simpa using hm)), (hE.2.kept k6 (fun j hj => (hgt x hE j (.inr hj)).1)).kept kq (fun j hj hm => (hgt x hE j (.inr hj)).2 (by simpa using hm))⟩
  · rw [hU]
    refine ⟨List.pairwise_append.2 ⟨h.good.uniq, by simp, fun p hp q hq => ?_⟩, fun p hp => ?_, fun p hp => ?_⟩
    · simp at hq
      subst hq
      exact alook_none.1 hnew p hp
    · rcases List.mem_append.1 hp with hp | hp
      · exact h.good.inv p hp
      · rw [List.mem_singleton.1 hp]; exact hinv
    · rcases List.mem_append.1 hp with hp | hp
      · exact h.good.word p hp
      · rw [List.mem_singleton.1 hp]; exact hword
  · exact ((k5.mono (T := qb :: fp a) (by simp)).step k6 (fun j hj => List.mem_cons_of_mem _ hj)).step kq (fun j hj => by simp at hj; simp [hj])
  · rcases rdom_mem.1 hj with e1 | e1 | ⟨x, hx, hd⟩
    · exact .inl (rdom_mem.2 (.inl e1))
    · rcases f6 j e1 with e2 | e2
      · exact .inl (rdom_mem.2 (.inr (.inl e2)))
      · exact .inr (Nat.le_trans k5.size e2)
    · rcases List.mem_append.1 hx with hx | hx
      · exact .inl (rdom_mem.2 (.inr (.inr ⟨x, hx, hd⟩)))
      · simp at hx; subst hx; exact .inr (hn j hd)
end Go.Proofs.Ytakccoiecmibcaa
