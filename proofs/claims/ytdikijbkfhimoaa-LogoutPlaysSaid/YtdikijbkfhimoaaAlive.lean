/- alive: the chapter's examples. Printed by gen_lalive.py. -/
import Derived.Test.YtdikijbkfhimoaaSt
namespace Go.Proofs.Ytdikijbkfhimoaa
open Go.RowKit Go.Maps

theorem keysS_eq {N : Notes} {l : List Str} (hp : l.Perm (N.map (·.1))) (hs : l.Pairwise (· ≤ ·)) : keysS N = l :=
  sorted_eq ((sortS_perm _).trans hp.symm) (sortS_sorted _) hs
set_option maxHeartbeats 8000000 in
set_option maxRecDepth 100000 in
theorem alive_any (w : World) : Calls Try.prog 10 #[] w fun e w' => e = .returned (.bool true) ∧ Kept [] w w' := by
  have hmx : maxLen = 9223372036854775807 := by unfold maxLen; rfl
  go_enter Try.func10, Try.ntmps10
  go_wp2_with fail
  refine (new_st (Kept.refl [] w) (most := 3) (delay := 10) (by omega) (by omega) (by omega) (by omega)).mono ?_
  rintro _ w1 ⟨lb, mb, rfl, h1⟩
  go_wp2_with fail
  refine (new_bad w1 (most := 9) (delay := 10) (by omega)).mono ?_
  rintro _ w2 ⟨rfl, k2⟩
  replace h1 := h1.keptN k2
  go_wp2_with fail
  have h1' := h1.keptN ((Kept.refl [] w2).alloc (.cells #[.string ⟨#[98]⟩, .string ⟨#[97]⟩] 9))
  refine (begin_st h1' ⟨#[115]⟩ (by simp [ByteArray.size, hmx]) (a := some ⟨w2.heap.size, 0, none⟩) (cap := 2) (cl := [[98], [97]]) (list_box encSOk (heap_alloc_new w2 _) rfl (by simp [maxLen])) (by simp) (by simp) 100).mono ?_
  rw [show beginE [] (⟨#[115]⟩ : ByteArray).data.toList [[98], [97]] = 0 by decide, show beginU [] (⟨#[115]⟩ : ByteArray).data.toList [[98], [97]] 100 = [([115], ((100 : Int), [([98], ((0 : Int), 0)), ([97], ((0 : Int), 0))]))] by decide]
  rintro _ w3 ⟨rfl, h3⟩
  go_wp2_with fail
  refine (due_st h3 100).mono ?_
  rintro _ w4 ⟨m, aa, caa, hd, rfl, qaa, raa, h4⟩
  rw [show lim 100 = 100 by decide] at hd h4
  obtain rfl := hd.uniq (due_dec h3.good (m := [([115], [97]), ([115], [98])]) (by decide) (by decide))
  rw [show dueU 10 100 [([115], ((100 : Int), [([98], ((0 : Int), 0)), ([97], ((0 : Int), 0))]))] = [([115], ((100 : Int), [([98], ((1 : Int), 0)), ([97], ((1 : Int), 0))]))] by decide] at h4
  clear hd
  go_wp2_with fail
  refine (due_st h4 100).mono ?_
  rintro _ w5 ⟨m, ab, cab, hd, rfl, qab, rab, h5⟩
  rw [show lim 100 = 100 by decide] at hd h5
  obtain rfl := hd.uniq (due_dec h4.good (m := []) (by decide) (by decide))
  rw [show dueU 10 100 [([115], ((100 : Int), [([98], ((1 : Int), 0)), ([97], ((1 : Int), 0))]))] = [([115], ((100 : Int), [([98], ((1 : Int), 0)), ([97], ((1 : Int), 0))]))] by decide] at h5
  clear hd
  replace h5 := h5.sub (p' := pinOf w4 aa ++ []) (fun q hq => List.mem_append_right _ hq)
  clear qab rab
  go_wp2_with fail
  refine (fail_st h5 ⟨#[115]⟩ ⟨#[97]⟩ (by simp [ByteArray.size, hmx]) (by simp [ByteArray.size, hmx]) 101).mono ?_
  rw [show endE [([115], ((100 : Int), [([98], ((1 : Int), 0)), ([97], ((1 : Int), 0))]))] (⟨#[115]⟩ : ByteArray).data.toList (⟨#[97]⟩ : ByteArray).data.toList = 0 by decide, show endU (failN 3) [([115], ((100 : Int), [([98], ((1 : Int), 0)), ([97], ((1 : Int), 0))]))] (⟨#[115]⟩ : ByteArray).data.toList (⟨#[97]⟩ : ByteArray).data.toList = [([115], ((100 : Int), [([98], ((1 : Int), 0)), ([97], ((0 : Int), 1))]))] by decide]
  rintro _ w6 ⟨rfl, h6⟩
  go_wp2_with fail
  refine (done_st h6 ⟨#[115]⟩ ⟨#[98]⟩ (by simp [ByteArray.size, hmx]) (by simp [ByteArray.size, hmx]) 101).mono ?_
  rw [show endE [([115], ((100 : Int), [([98], ((1 : Int), 0)), ([97], ((0 : Int), 1))]))] (⟨#[115]⟩ : ByteArray).data.toList (⟨#[98]⟩ : ByteArray).data.toList = 0 by decide, show endU doneN [([115], ((100 : Int), [([98], ((1 : Int), 0)), ([97], ((0 : Int), 1))]))] (⟨#[115]⟩ : ByteArray).data.toList (⟨#[98]⟩ : ByteArray).data.toList = [([115], ((100 : Int), [([98], ((2 : Int), 0)), ([97], ((0 : Int), 1))]))] by decide]
  rintro _ w7 ⟨rfl, h7⟩
  go_wp2_with fail
  refine (due_st h7 109).mono ?_
  rintro _ w8 ⟨m, ac, cac, hd, rfl, qac, rac, h8⟩
  rw [show lim 109 = 109 by decide] at hd h8
  obtain rfl := hd.uniq (due_dec h7.good (m := []) (by decide) (by decide))
  rw [show dueU 10 109 [([115], ((100 : Int), [([98], ((2 : Int), 0)), ([97], ((0 : Int), 1))]))] = [([115], ((100 : Int), [([98], ((2 : Int), 0)), ([97], ((0 : Int), 1))]))] by decide] at h8
  clear hd
  replace h8 := h8.sub (p' := pinOf w4 aa ++ []) (fun q hq => List.mem_append_right _ hq)
  clear qac rac
  go_wp2_with fail
  refine (due_st h8 110).mono ?_
  rintro _ w9 ⟨m, ad, cad, hd, rfl, qad, rad, h9⟩
  rw [show lim 110 = 110 by decide] at hd h9
  obtain rfl := hd.uniq (due_dec h8.good (m := [([115], [97])]) (by decide) (by decide))
  rw [show dueU 10 110 [([115], ((100 : Int), [([98], ((2 : Int), 0)), ([97], ((0 : Int), 1))]))] = [([115], ((100 : Int), [([98], ((2 : Int), 0)), ([97], ((1 : Int), 1))]))] by decide] at h9
  clear hd
  go_wp2_with fail
  refine (fail_st h9 ⟨#[115]⟩ ⟨#[97]⟩ (by simp [ByteArray.size, hmx]) (by simp [ByteArray.size, hmx]) 110).mono ?_
  rw [show endE [([115], ((100 : Int), [([98], ((2 : Int), 0)), ([97], ((1 : Int), 1))]))] (⟨#[115]⟩ : ByteArray).data.toList (⟨#[97]⟩ : ByteArray).data.toList = 0 by decide, show endU (failN 3) [([115], ((100 : Int), [([98], ((2 : Int), 0)), ([97], ((1 : Int), 1))]))] (⟨#[115]⟩ : ByteArray).data.toList (⟨#[97]⟩ : ByteArray).data.toList = [([115], ((100 : Int), [([98], ((2 : Int), 0)), ([97], ((0 : Int), 2))]))] by decide]
  rintro _ w10 ⟨rfl, h10⟩
  go_wp2_with fail
  refine (due_st h10 130).mono ?_
  rintro _ w11 ⟨m, ak, cak, hd, rfl, qak, rak, h11⟩
  rw [show lim 130 = 130 by decide] at hd h11
  obtain rfl := hd.uniq (due_dec h10.good (m := [([115], [97])]) (by decide) (by decide))
  rw [show dueU 10 130 [([115], ((100 : Int), [([98], ((2 : Int), 0)), ([97], ((0 : Int), 2))]))] = [([115], ((100 : Int), [([98], ((2 : Int), 0)), ([97], ((1 : Int), 2))]))] by decide] at h11
  clear hd
  replace h11 := h11.sub (p' := pinOf w9 ad ++ (pinOf w4 aa ++ [])) (fun q hq => List.mem_append_right _ hq)
  clear qak rak
  go_wp2_with fail
  refine (fail_st h11 ⟨#[115]⟩ ⟨#[97]⟩ (by simp [ByteArray.size, hmx]) (by simp [ByteArray.size, hmx]) 131).mono ?_
  rw [show endE [([115], ((100 : Int), [([98], ((2 : Int), 0)), ([97], ((1 : Int), 2))]))] (⟨#[115]⟩ : ByteArray).data.toList (⟨#[97]⟩ : ByteArray).data.toList = 0 by decide, show endU (failN 3) [([115], ((100 : Int), [([98], ((2 : Int), 0)), ([97], ((1 : Int), 2))]))] (⟨#[115]⟩ : ByteArray).data.toList (⟨#[97]⟩ : ByteArray).data.toList = [([115], ((100 : Int), [([98], ((2 : Int), 0)), ([97], ((3 : Int), 3))]))] by decide]
  rintro _ w12 ⟨rfl, h12⟩
  go_wp2_with fail
  refine (status_st h12 ⟨#[115]⟩ (by simp [ByteArray.size, hmx])).mono ?_
  rw [show statS [([115], ((100 : Int), [([98], ((2 : Int), 0)), ([97], ((3 : Int), 3))]))] (⟨#[115]⟩ : ByteArray).data.toList = (1, 1, 0) by decide]
  rintro _ w13 ⟨rfl, h13⟩
  have qa2 := list_pin qaa (h13.same (w := w4) (a := aa) (fun q hq => by simp [hq]) (fun i hi => (raa i hi).2))
  have qd2 := list_pin qad (h13.same (w := w9) (a := ad) (fun q hq => by simp [hq]) (fun i hi => (rad i hi).2))
  replace h13 := h13.sub (p' := []) (by simp)
  clear qaa raa qad rad
  go_wp2_with fail
  have kb : Kept [] w13 (w13.alloc (.cells #[.string ⟨#[115]⟩, .string ⟨#[97]⟩, .string ⟨#[115]⟩, .string ⟨#[98]⟩] 48)) := (Kept.refl [] _).alloc _
  refine (same_any (cap2 := 2) (qa2.keptN kb) (list_box encPrOk (heap_alloc_new w13 (.cells #[.string ⟨#[115]⟩, .string ⟨#[97]⟩, .string ⟨#[115]⟩, .string ⟨#[98]⟩] 48)) rfl (by simp [maxLen]))).mono ?_
  rintro _ v1 ⟨rfl, d1⟩
  have g1 := kb.step d1.kept (by simp)
  replace h13 := h13.keptN g1
  replace qd2 := qd2.keptN g1
  clear g1 d1 kb qa2
  go_wp2_with fail
  have kb : Kept [] v1 (v1.alloc (.cells #[.string ⟨#[115]⟩, .string ⟨#[97]⟩] 48)) := (Kept.refl [] _).alloc _
  refine (same_any (cap2 := 1) (qd2.keptN kb) (list_box encPrOk (heap_alloc_new v1 (.cells #[.string ⟨#[115]⟩, .string ⟨#[97]⟩] 48)) rfl (by simp [maxLen]))).mono ?_
  rintro _ v2 ⟨rfl, d2⟩
  replace h13 := (h13.keptN kb).keptN d2.kept
  clear kb d2 qd2
  go_wp2_with fail
  refine (bound_st h13).mono ?_
  rw [show afterN 10 (3 - 1) = 30 by decide]
  rintro _ v3 ⟨rfl, e3⟩
  go_wp2_with fail
  refine (given_st e3 ⟨#[115]⟩ (by simp [ByteArray.size, hmx])).mono ?_
  rw [show givenL [([115], ((100 : Int), [([98], ((2 : Int), 0)), ([97], ((3 : Int), 3))]))] (⟨#[115]⟩ : ByteArray).data.toList = [[97]] from by
    show delP _ (keysS _) = _
    rw [keysS_eq (l := [[97], [98]]) (by decide) (by decide)]
    decide]
  rintro _ v4 ⟨ag, cg, rfl, qg, rg, kg, e4⟩
  replace e4 := e4.sub (p' := []) (by simp)
  go_wp2_with fail
  have kb : Kept [] v4 (v4.alloc (.cells #[.string ⟨#[97]⟩] 9)) := (Kept.refl [] _).alloc _
  refine (lists_any (cap2 := 1) (qg.keptN kb) (list_box encSOk (heap_alloc_new v4 (.cells #[.string ⟨#[97]⟩] 9)) rfl (by simp [maxLen]))).mono ?_
  rintro _ v5 ⟨rfl, d5⟩
  replace e4 := (e4.keptN kb).keptN d5.kept
  clear kb d5 qg rg kg
  go_wp2_with fail
  refine (done_st e4 ⟨#[115]⟩ ⟨#[120]⟩ (by simp [ByteArray.size, hmx]) (by simp [ByteArray.size, hmx]) 0).mono ?_
  rw [show endE [([115], ((100 : Int), [([98], ((2 : Int), 0)), ([97], ((3 : Int), 3))]))] (⟨#[115]⟩ : ByteArray).data.toList (⟨#[120]⟩ : ByteArray).data.toList = 6 by decide, show endU doneN [([115], ((100 : Int), [([98], ((2 : Int), 0)), ([97], ((3 : Int), 3))]))] (⟨#[115]⟩ : ByteArray).data.toList (⟨#[120]⟩ : ByteArray).data.toList = [([115], ((100 : Int), [([98], ((2 : Int), 0)), ([97], ((3 : Int), 3))]))] by decide]
  rintro _ v6 ⟨rfl, e6⟩
  go_wp2_with fail
  refine (done_st e6 ⟨#[115]⟩ ⟨#[97]⟩ (by simp [ByteArray.size, hmx]) (by simp [ByteArray.size, hmx]) 0).mono ?_
  rw [show endE [([115], ((100 : Int), [([98], ((2 : Int), 0)), ([97], ((3 : Int), 3))]))] (⟨#[115]⟩ : ByteArray).data.toList (⟨#[97]⟩ : ByteArray).data.toList = 12 by decide]
  rintro _ v7 ⟨rfl, e7⟩
  go_wp2_with fail
  go_ret
  exact ⟨rfl, e7.kept⟩
end Go.Proofs.Ytdikijbkfhimoaa
