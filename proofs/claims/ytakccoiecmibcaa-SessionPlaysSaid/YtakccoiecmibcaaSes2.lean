/- Touch, Present, Join, End of the program. -/
import Derived.Test.YtakccoiecmibcaaSes
import Derived.Test.YtakccoiecmibcaaPadd
import Derived.Test.YtakccoiecmibcaaHas
import Derived.StillTailTactics
import Derived.Deep.RegionHeld3
namespace Go.Proofs.Ytakccoiecmibcaa
open Go.RowKit Go.Maps

theorem kept_one (p : Nat) (w : World) (i : Nat) (v : Value) : Kept [p] w (w.setCell ⟨p, i, none⟩ v) := (Kept.refl [p] w).setCell (.inl (by simp)) v

/-! ### Touch -/
set_option maxHeartbeats 4000000 in
set_option maxRecDepth 100000 in
theorem touch_any {w : World} {sb mb : Nat} {idle abs : Int} {X : EXs} (h : SesAt w sb mb idle abs X) (s : ByteArray) (hs : s.size ≤ maxLen) (now : Int) :
    Calls Try.prog 28 #[.pointer (some ⟨sb, 0, none⟩), .string s, .int .i64 now] w fun e w' => e = .returned (.int .i64 (findC (absW X) s.data.toList now)) ∧ Left w w' sb mb idle abs X (touchU idle abs (absW X) s.data.toList now) := by
  have HF := hid (find_any h s hs now)
  by_cases hz : findC (absW X) s.data.toList now = 0
  · obtain ⟨q, hq, hv, hen, hun⟩ := find_ptr hz
    have E := hid (show touchU idle abs (absW X) s.data.toList now = updU (absW X) s.data.toList (touchX idle abs now) by unfold touchU; rw [if_pos hz])
    rw [hz, hv] at HF
    rw [hz, E.out]
    have hp := h.map.of_look hq
    have hin := h.good.look (id := s.data.toList) (x := q.x) (by rw [absW_look, hq]; rfl)
    have HI := hid (hin.touch now)
    have HH := hid h
    have HQ := hid hq
    have HP := hid hp
    have hb := lim_bd now
    have hst := hin.start
    have hT : ∀ w : World, True := fun _ => trivial
    clear h hq hv hz hin hp hen hun hT
    go_enter Try.func28, Try.ntmps28
    go_wp2_with fail
    refine HF.out.mono ?_
    rintro e w1 ⟨rfl, hd⟩
    have HP1 := hid (HP.out.atD hd)
    have c5 := HP1.out.ec.c5
    have f5 := HP1.out.free 5
    have HD := hid hd.kept
    clear hd
    go_wp2_with fail
    have HA := hid (fun wq : World => add0_any now wq)
    have HS1 := hid ((HP1.out.set { q with x := { q.x with seen := max q.x.seen (lim now) } } 5 (.int .i64 (max q.x.seen (lim now))) rfl rfl rfl rfl rfl rfl rfl rfl).atD ⟨1, rfl⟩)
    have HK1 := hid (((HD.out.mono (T := [q.p]) (by simp)).step (kept_one q.p w1 5 (.int .i64 (max q.x.seen (lim now)))) (fun _ hi => hi)).drew)
    go_region_with (go_at_call 30; refine (HA.out _).mono ?_; rintro e w2 ⟨rfl, rfl⟩)
    all_goals (
      obtain ⟨w2, HW2⟩ : ∃ w2, Hid (w2 = (w1.setCell ⟨q.p, 5, none⟩ (.int .i64 (max q.x.seen (lim now)))).drew) := ⟨_, hid rfl⟩
      have HS2 := HS1
      have HK2 := HK1
      change Hid (EntAt (w1.setCell ⟨q.p, 5, none⟩ (.int .i64 (max q.x.seen (lim now)))).drew _) at HS2
      rw [← HW2.out] at HS2 HK2 ⊢
      have d4 := HS2.out.ec.c4
      have d5 := HS2.out.ec.c5
      have g0 := (HK2.out.at HH.out.blk (fun hm => HH.out.out (by simp at hm; rw [hm]; exact pdom_mem.2 (.inr ⟨_, alook_some HQ.out, by simp [edm]⟩))))
      have g1 := g0
      replace g0 : w2.cell? ⟨sb, 0, none⟩ = some (.int .i64 idle) := by rw [cell_at g0]; rfl
      replace g1 : w2.cell? ⟨sb, 1, none⟩ = some (.int .i64 abs) := by rw [cell_at g1]; rfl
      have HU := hid (until_any g0 g1 d4 d5)
      clear c5 f5 d4 d5 g0 g1
      go_wp2_with fail
      refine HU.out.mono ?_
      rintro e w3 ⟨rfl, hd3⟩
      have HP3 := hid (HS2.out.atD hd3)
      have d6 := HP3.out.ec.c6
      have f6 := HP3.out.free 6
      have HK3 := hid (HK2.out.step hd3.kept (by simp))
      clear hd3
      go_wp2_with fail
      go_ret
      refine ⟨rfl, HH.out.upd HQ.out (HK3.out.step (kept_one q.p w3 6 _) (fun _ hi => hi)) (fun i hi => .inl (by simp at hi; subst hi; simp [edm])) (q' := { q with x := touchX idle abs now q.x }) (HP3.out.set _ 6 _ rfl rfl rfl rfl rfl rfl rfl rfl) rfl rfl (fun i hi => .inl hi) rfl HI.out⟩)
  · have E := hid (show touchU idle abs (absW X) s.data.toList now = absW X by unfold touchU; rw [if_neg hz])
    have hne : (findC (absW X) s.data.toList now != 0) = true := by simpa using hz
    rw [find_nptr hz] at HF
    rw [E.out]
    have HH := hid h
    generalize findC (absW X) s.data.toList now = c at *
    clear h hz
    go_enter Try.func28, Try.ntmps28
    go_wp2_with fail
    refine HF.out.mono ?_
    rintro e w1 ⟨rfl, hd⟩
    have HD := hid hd.kept
    clear hd
    go_wp2_with fail
    go_ret
    exact ⟨rfl, Left.same HH.out HD.out⟩
end Go.Proofs.Ytakccoiecmibcaa
