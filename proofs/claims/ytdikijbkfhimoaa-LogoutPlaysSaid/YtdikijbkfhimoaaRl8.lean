/- Fail of the reference, walked. -/
import Derived.Test.YtdikijbkfhimoaaRl7
namespace Go.Proofs.Ytdikijbkfhimoaa
open Go.RowKit Go.Maps

section
variable {w : World} {qb most delay : Nat} {a : Option Addr} {cap : Nat} {Y : List RQ} {U : Log}
set_option maxHeartbeats 8000000 in
set_option maxRecDepth 100000 in
theorem rfail_any (h : RAt w qb most delay a cap Y) (hr : Rel U Y) (hg : Good most delay U) (s c : ByteArray) (now : Int) :
    Calls Try.prog 21 #[.pointer (some ⟨qb, 0, none⟩), .string s, .string c, .int .i64 now] w fun e w' => e = .returned (.int .i64 (endE U s.data.toList c.data.toList)) ∧ RLeft w w' qb most delay a Y (endU (failN most) U s.data.toList c.data.toList) := by
  have HS := hid (RLeft.same h hr (Kept.refl [] w))
  have HX := hid (show endE U s.data.toList c.data.toList = match noteAt U s.data.toList c.data.toList with | none => 6 | some n => if n.1 = 1 then 0 else 12 from rfl)
  have HU := hid (show endU (failN most) U s.data.toList c.data.toList = match noteAt U s.data.toList c.data.toList with | none => U | some n => if n.1 = 1 then setU U s.data.toList c.data.toList (failN most n) else U from rfl)
  rcases endW hr hg s.data.toList c.data.toList with ⟨e, hn⟩ | ⟨i, hi, e, hnt, hn⟩ | ⟨i, hi, k, hk, x, e, hnt, hs, hc, hx, hrx, hn⟩
  · rw [hn] at HX HU
    rw [HX.out, HU.out]
    have HF := hid (find_out h s c e)
    clear h hr hg e hn
    go_enter Try.func21, Try.ntmps21
    go_wp2_with (go_at_call 48; refine HF.out.mono ?_; rintro e w' ⟨rfl, rfl⟩; unfold noV)
    go_ret
    exact ⟨rfl, HS.out⟩
  · rw [hn] at HX HU
    rw [HX.out, HU.out]
    have HF := hid (find_any h s c hi e hnt (.inl ⟨rfl, rfl⟩))
    clear h hr hg e hn hnt
    go_enter Try.func21, Try.ntmps21
    go_wp2_with (go_at_call 48; refine HF.out.mono ?_; rintro e w' ⟨rfl, rfl⟩; unfold noV)
    go_ret
    exact ⟨rfl, HS.out⟩
  · rw [hn] at HX HU
    have HF0 := find_any h s c hi e hnt (.inr ⟨hk, eqN_self hc, rfl⟩)
    by_cases hz : Y[i].l[k].state = 1
    · rw [if_pos hz] at HF0
      have HF := hid HF0
      rw [HX.out, HU.out]
      dsimp only
      rw [if_pos hz, if_pos hz]
      have hfi := (hr.fine hg _ (List.getElem_mem hi) _ (List.getElem_mem hk)).2.2
      have hop : Y[i].l[k].failed < most := hfi.open_ (.inr hz)
      have hm8 := h.rm.2
      obtain ⟨b, eb, hb, n0, n1, n2, n3, hfz⟩ := h.note hi hk
      rw [hz] at n3
      have hlv := fun W (kW : Kept [] w W) => (h.keptN kW)
      have HL := hid (fun (W : World) (kW : Kept [] w W) (t : Int) (ht : (t, Y[i].l[k].failed + 1) = failN most (Y[i].l[k].state, Y[i].l[k].failed)) => show RLeft w (((((W.setCell ⟨b, k * 4, none⟩ (.string ⟨Y[i].l[k].c.toArray⟩)).setCell ⟨b, k * 4 + 1, none⟩ (.int .i64 ((Y[i].l[k].failed : Int) + 1))).setCell ⟨b, k * 4 + 2, none⟩ (.int .i64 Y[i].l[k].begun)).setCell ⟨b, k * 4 + 3, none⟩ (.int .i64 t)).drew) qb most delay a Y (setU U s.data.toList c.data.toList (failN most (Y[i].l[k].state, Y[i].l[k].failed))) from by
        have h4 := (hlv W kW).note4 hi eb hk ⟨Y[i].l[k].c, Y[i].l[k].failed + 1, Y[i].l[k].begun, t⟩ (.string ⟨Y[i].l[k].c.toArray⟩) (.int .i64 ((Y[i].l[k].failed : Int) + 1)) (.int .i64 Y[i].l[k].begun) (.int .i64 t) rfl
        refine RLeft.of kW hi (h4.keptN (Kept.refl [] _).drew) ?_ (((((Kept.refl _ W).setCell (.inl (by rw [eb]; simp [fp])) _).setCell (.inl (by rw [eb]; simp [fp])) _).setCell (.inl (by rw [eb]; simp [fp])) _).setCell (.inl (by rw [eb]; simp [fp])) _).drew
        have := hr.turn hi (by rw [hs]; exact hx) hrx hk (r := ⟨Y[i].l[k].c, Y[i].l[k].failed + 1, Y[i].l[k].begun, t⟩) rfl rfl
        rw [hs, hc] at this
        rw [← ht, hs, hc]
        exact this)
      have HT0 := hid (fun (hne : ¬ (most : Int) ≤ (Y[i].l[k].failed : Int) + 1) => show (((0 : Int), Y[i].l[k].failed + 1) : Note) = failN most (Y[i].l[k].state, Y[i].l[k].failed) from by unfold failN; dsimp only; rw [if_neg (by omega)])
      have HT3 := hid (fun (hne : (most : Int) ≤ (Y[i].l[k].failed : Int) + 1) => show (((3 : Int), Y[i].l[k].failed + 1) : Note) = failN most (Y[i].l[k].state, Y[i].l[k].failed) from by unfold failN; dsimp only; rw [if_pos (by omega)])
      have HC0 := hid (fun W (kW : Kept [] w W) => (hlv W kW).c0)
      have HC2 := hid (fun W (kW : Kept [] w W) => (hlv W kW).c2)
      obtain ⟨g, rfl, hgz, _, d1⟩ := h.get hi
      rw [eb] at d1
      have HD1 := hid (fun W (kW : Kept [] w W) => (kW.cell (p := ⟨g, i * 2 + 1, none⟩) hgz (by simp)).trans d1)
      have HFZ := hid (fun W (kW : Kept [] w W) j => (kW.frozen (p := ⟨b, j, none⟩) hb (by simp)).trans (hfz j))
      have HN0 := hid (fun W (kW : Kept [] w W) => (kW.cell (p := ⟨b, k * 4, none⟩) hb (by simp)).trans n0)
      have HN1 := hid (fun W (kW : Kept [] w W) => (kW.cell (p := ⟨b, k * 4 + 1, none⟩) hb (by simp)).trans n1)
      have HN2 := hid (fun W (kW : Kept [] w W) => (kW.cell (p := ⟨b, k * 4 + 2, none⟩) hb (by simp)).trans n2)
      have HN3 := hid (fun W (kW : Kept [] w W) => (kW.cell (p := ⟨b, k * 4 + 3, none⟩) hb (by simp)).trans n3)
      have c2 := h.c2
      have j1 : (0 : Int) ≤ i := by omega
      have j2 : (i : Int) < Y.length := by omega
      have k1 : (0 : Int) ≤ k := by omega
      have k2 : (k : Int) < Y[i].l.length := by omega
      clear h hr hg e hn hnt hs hc hx hrx hfz HX HU HF0 eb hz hlv hfi
      generalize Y[i] = y at *
      generalize y.l[k] = r at *
      obtain ⟨rc, rf, rb, rs⟩ := r
      unfold sV at n0 HN0
      dsimp only at *
      have r1 : (0 : Int) ≤ rf := by omega
      have r2 : (rf : Int) < 8 := by omega
      go_enter Try.func21, Try.ntmps21
      go_wp2_with (go_at_call 48; refine HF.out.mono ?_; rintro e w' ⟨rfl, rfl⟩)
      obtain ⟨g2, HG2⟩ : ∃ g2, Hid (g2 = w.heap.size) := ⟨_, hid rfl⟩
      have hg2 : w.heap.size ≤ g2 := Nat.le_of_eq HG2.out.symm
      have HB4 := hid (heap_alloc_new w (.cells #[.string ⟨rc.toArray⟩, .int .i64 ((rf : Int) + 1), .int .i64 rb, .int .i64 0] 81 (0, 0)))
      have HK4 := hid ((Kept.refl [] w).alloc (.cells #[.string ⟨rc.toArray⟩, .int .i64 ((rf : Int) + 1), .int .i64 rb, .int .i64 0] 81 (0, 0)))
      obtain ⟨w4, HW4⟩ : ∃ v, Hid (v = w.alloc (.cells #[.string ⟨rc.toArray⟩, .int .i64 ((rf : Int) + 1), .int .i64 rb, .int .i64 0] 81 (0, 0))) := ⟨_, hid rfl⟩
      rw [← HG2.out, ← HW4.out]
      rw [← HW4.out] at HB4 HK4
      rw [← HG2.out] at HB4
      obtain ⟨e0, e1, e2, e3⟩ := four HB4.out
      have c0 := HC0.out w4 HK4.out
      have z3 := free_at HB4.out 3
      clear n0 n1 n2 n3 d1 c2
      by_cases hge : (most : Int) ≤ (rf : Int) + 1
      · have HL3 := hid (fun W kW => HL.out W kW 3 (HT3.out hge))
        have HB5 := hid (fun n => heap_setCell_same (w4.drewN n) g2 3 _ _ (.int .i64 3) HB4.out)
        have HK5 := hid (fun n => (HK4.out.drewN n).setCell (p := ⟨g2, 3, none⟩) (.inr hg2) (.int .i64 3))
        clear HT0 HT3
        go_quiet (fail)
        go_wp2_with fail
        obtain ⟨w5, HW5⟩ : ∃ v, Hid (v = (w4.drewN nq).setCell ⟨g2, 3, none⟩ (.int .i64 3)) := ⟨_, hid rfl⟩
        have hb5 := HB5.out nq
        have hk5 := HK5.out nq
        rw [← HW5.out] at hb5 hk5
        rw [← HW5.out]
        clear e0 e1 e2 e3 c0 z3
        obtain ⟨e0, e1, e2, e3⟩ := four hb5
        change w5.cell? ⟨g2, 3, none⟩ = some (.int .i64 3) at e3
        have c2 := HC2.out w5 hk5
        have d1 := HD1.out w5 hk5
        have n0 := HN0.out w5 hk5
        have n1 := HN1.out w5 hk5
        have n2 := HN2.out w5 hk5
        have n3 := HN3.out w5 hk5
        have z0 := HFZ.out w5 hk5 (k * 4)
        have z1 := HFZ.out w5 hk5 (k * 4 + 1)
        have z2 := HFZ.out w5 hk5 (k * 4 + 2)
        have z3 := HFZ.out w5 hk5 (k * 4 + 3)
        have HR := hid (HL3.out w5 hk5)
        clear hb5 hk5
        go_still_tail 11, (by kernel_rfl)
        change wpList _ _ _ _ _ w5.drew
        go_wp2_with fail
        go_ret
        exact ⟨rfl, HR.out⟩
      · have HL3 := hid (fun W kW => HL.out W kW 0 (HT0.out (by omega)))
        clear HT0 HT3
        go_quiet (fail)
        go_wp2_with fail
        obtain ⟨w5, HW5⟩ : ∃ v, Hid (v = w4.drewN nq) := ⟨_, hid rfl⟩
        have hb5 : (w4.drewN nq).heap[g2]? = _ := HB4.out
        have hk5 := HK4.out.drewN nq
        rw [← HW5.out] at hb5 hk5
        rw [← HW5.out]
        clear e0 e1 e2 e3 c0 z3
        obtain ⟨e0, e1, e2, e3⟩ := four hb5
        have c2 := HC2.out w5 hk5
        have d1 := HD1.out w5 hk5
        have n0 := HN0.out w5 hk5
        have n1 := HN1.out w5 hk5
        have n2 := HN2.out w5 hk5
        have n3 := HN3.out w5 hk5
        have z0 := HFZ.out w5 hk5 (k * 4)
        have z1 := HFZ.out w5 hk5 (k * 4 + 1)
        have z2 := HFZ.out w5 hk5 (k * 4 + 2)
        have z3 := HFZ.out w5 hk5 (k * 4 + 3)
        have HR := hid (HL3.out w5 hk5)
        clear hb5 hk5
        go_still_tail 11, (by kernel_rfl)
        change wpList _ _ _ _ _ w5.drew
        go_wp2_with fail
        go_ret
        exact ⟨rfl, HR.out⟩
    · rw [if_neg hz] at HF0
      have HF := hid HF0
      rw [HX.out, HU.out]
      dsimp only
      rw [if_neg hz, if_neg hz]
      clear h hr hg e hn hnt hs hc hx hrx HX HU HF0 hz
      go_enter Try.func21, Try.ntmps21
      go_wp2_with (go_at_call 48; refine HF.out.mono ?_; rintro e w' ⟨rfl, rfl⟩; unfold noV)
      go_ret
      exact ⟨rfl, HS.out⟩
end
end Go.Proofs.Ytdikijbkfhimoaa
