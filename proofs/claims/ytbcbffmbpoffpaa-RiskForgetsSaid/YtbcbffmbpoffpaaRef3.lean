/- Known, Drop, Signals of the reference. -/
import Derived.Test.YtbcbffmbpoffpaaRef2
import Derived.Test.YtbcbffmbpoffpaaProf3
namespace Go.Proofs.Ytbcbffmbpoffpaa
open Go.RowKit Go.Maps

set_option maxHeartbeats 1000000 in
theorem rknown_any {w : World} {qb : Nat} {a : Option Addr} {cap : Nat} {X : List Raw} {U : Users} (h : RefR w qb a cap X) (hl : Like w X U) (huq : AUniq U) (hlen : U.length ≤ 256) (u d : ByteArray) :
    Calls Try.prog 24 #[.pointer (some ⟨qb, 0, none⟩), .string u, .string d] w fun e w' => e = .returned (.bool (knownB U u.data.toList d.data.toList)) ∧ w = w' := by
  obtain ⟨c0, c1⟩ := h.head
  have HAT := hid (rat_any h hl hlen u)
  rcases at_cases huq u.data.toList with ⟨e, hn⟩ | ⟨k, hk, e, hs, h1⟩
  · rw [e] at HAT
    have E := hid (show knownB U u.data.toList d.data.toList = false by unfold knownB prof; rw [hn]; rfl)
    clear e hn
    go_enter Try.func24, Try.ntmps24
    go_wp2_with (go_at_call 39; refine HAT.out.mono ?_; rintro e w' ⟨rfl, rfl⟩)
    go_ret
    exact ⟨ret_bool E.out.symm, rfl⟩
  · rw [e] at HAT
    have hkx : k < X.length := by rw [hl.len]; exact hk
    obtain ⟨g, rfl, hg, d0, d1, d2, d3, _⟩ := h.get hkx
    obtain ⟨i1, i2, i3, i4, i5, i6⟩ := hl.el k hkx hk
    have E := hid (show knownB U u.data.toList d.data.toList = hasS U[k].2.dev d.data.toList by unfold knownB prof; rw [hs]; rfl)
    have HC := hid (rcontains_any (cap := X[k].c1) (w := w) (a := X[k].a1) i5.1 d)
    rw [i2] at d1
    have hb1 : (0 : Int) ≤ k := by omega
    have hb2 : (k : Int) < X.length := by omega
    clear e hs h1 i1 i2 i3 i4 i5 i6 d0 d2 d3
    go_enter Try.func24, Try.ntmps24
    go_wp2_with (first
      | (go_at_call 39; refine HAT.out.mono ?_; rintro e w' ⟨rfl, rfl⟩)
      | (go_at_call 45; refine HC.out.mono ?_; rintro e w' ⟨rfl, rfl⟩))
    go_ret
    exact ⟨ret_bool E.out.symm, rfl⟩

set_option maxHeartbeats 2000000 in
set_option maxRecDepth 100000 in
theorem rsignals_any {w : World} {qb : Nat} {a : Option Addr} {cap : Nat} {X : List Raw} {U : Users} (h : RefR w qb a cap X) (hl : Like w X U) (hfi : AllFit U) (huq : AUniq U) (hlen : U.length ≤ 256) (u d p : ByteArray) (now : Int) :
    Calls Try.prog 22 #[.pointer (some ⟨qb, 0, none⟩), .string u, .string d, .string p, .int .i64 now] w fun e w' => SigGives w w' e (sigsL U u.data.toList d.data.toList p.data.toList now) := by
  obtain ⟨c0, c1⟩ := h.head
  have hqbl := lt_of_heap h.blk
  have HAT := hid (fun wq (k : Kept [] w wq) => rat_any (h.kept k (by simp) (by simp)) (hl.kept k (nostr_nil w)) hlen u)
  have HFI := hid (hfi u.data.toList)
  obtain ⟨B1, HB1⟩ : ∃ B, Hid (B = hasS (prof U u.data.toList).dev d.data.toList) := ⟨_, hid rfl⟩
  obtain ⟨B2, HB2⟩ : ∃ B, Hid (B = hasS (prof U u.data.toList).pl p.data.toList) := ⟨_, hid rfl⟩
  obtain ⟨B3, HB3⟩ : ∃ B, Hid (B = travB U u.data.toList p.data.toList now) := ⟨_, hid rfl⟩
  have HE := hid (show sigsL U u.data.toList d.data.toList p.data.toList now = [(sDevice, bitZ (!B1)), (sPlace, bitZ (!B2)), (sTravel, bitZ B3), (sFirst, bitZ (!(alook U u.data.toList).isSome))] by rw [HB1.out, HB2.out, HB3.out]; rfl)
  have hbx0 := heap_alloc_new w (.cells #[.string ⟨#[]⟩, .slice none 0 0, .slice none 0 0, .int .i64 0] 74 (0, 0))
  have HBX0 := hid hbx0
  have HKA := hid ((Kept.refl [] w).alloc (.cells #[.string ⟨#[]⟩, .slice none 0 0, .slice none 0 0, .int .i64 0] 74 (0, 0)))
  clear hbx0
  rcases at_cases huq u.data.toList with ⟨e, hn⟩ | ⟨k, hk, e, hs, h1⟩
  · have hpr : prof U u.data.toList = prof0 := by unfold prof; rw [hn]; rfl
    have hsome : (alook U u.data.toList).isSome = false := by rw [hn]; rfl
    have h3 : B3 = false := by rw [HB3.out]; simp [travB, hsome]
    subst h3
    rw [hsome] at HE
    rw [hpr] at HB1 HB2
    have HQ1 := hid (fun wq (_k : Kept [] w wq) => HB1.out ▸ rcontains_any (cap := 0) (list_nil wq none) d)
    have HQ2 := hid (fun wq (_k : Kept [] w wq) => HB2.out ▸ rcontains_any (cap := 0) (list_nil wq none) p)
    simp only [List.length_nil] at HQ1 HQ2
    clear hpr hsome hn
    go_enter Try.func22, Try.ntmps22
    go_wp2_with (go_at_call 39; refine (HAT.out _ HKA.out).mono ?_; rw [e]; rintro e w' ⟨rfl, rfl⟩)
    obtain ⟨w0, HW0⟩ : ∃ w0, Hid (w0 = w.alloc (.cells #[.string ⟨#[]⟩, .slice none 0 0, .slice none 0 0, .int .i64 0] 74 (0, 0))) := ⟨_, hid rfl⟩
    rw [← HW0.out] at HBX0 HKA ⊢
    have HK0 := HKA
    have HC := hid (fun wq (k : Kept [] w0 wq) => And.intro (show wq.cell? ⟨w.heap.size, 1, none⟩ = some (.slice none 0 0) by rw [cell_at (k.at HBX0.out (by simp))]; rfl) (show wq.cell? ⟨w.heap.size, 2, none⟩ = some (.slice none 0 0) by rw [cell_at (k.at HBX0.out (by simp))]; rfl))
    go_quiet (fail)
    go_wp2_with fail
    go_region_held3 (fun w' => w'.cell? ⟨w.heap.size, 1, none⟩ = some (.slice none 0 0) ∧ w'.cell? ⟨w.heap.size, 2, none⟩ = some (.slice none 0 0))
      (first
        | exact HC.out _ (((Kept.refl [] w0).drewN _).drew)
        | exact HC.out _ ((((Kept.refl [] w0).drewN _).drew).alloc _)
        | exact HC.out _ ((Kept.refl [] w0).drewN _))
      (first
        | (go_at_call 44; refine (bit_any _ _).mono ?_; rintro e w' ⟨rfl, rfl⟩)
        | (go_at_call 45; have _t := tok1; refine (HQ2.out _ (HK0.out.step ((((Kept.refl [] w0).drewN _).drew)) (by simp))).mono ?_; rintro e w' ⟨rfl, rfl⟩)
        | (go_at_call 45; refine (HQ1.out _ (HK0.out.step ((((Kept.refl [] w0).drewN _).drew)) (by simp))).mono ?_; rintro e w' ⟨rfl, rfl⟩; have tok1 : True := trivial))
    go_wp2_with fail
    go_ret
    rw [HE.out]
    exact ⟨_, 4, rfl, list_box encGOk (heap_alloc_new _ _) (by simp [rowV, encG, sV, sDevice, sPlace, sTravel, sFirst]) (by simp [maxLen]), (HK0.out.step ((((Kept.refl [] w0).drewN _).drew)) (by simp)).alloc _⟩
  · have hpr : prof U u.data.toList = U[k].2 := by unfold prof; rw [hs]; rfl
    have hsome : (alook U u.data.toList).isSome = true := by rw [hs]; rfl
    rw [hsome] at HE
    have hT : B3 = (lastNe U[k].2.pl p.data.toList && decide (lim now < U[k].2.at_ + 3600)) := by rw [HB3.out]; simp [travB, hsome, hpr]
    rw [hpr] at HB1 HB2
    obtain ⟨f1, f2, f3, f4, f5, f6⟩ := HFI.out _ hs
    have hkx : k < X.length := by rw [hl.len]; exact hk
    obtain ⟨g, rfl, hg, d0, d1, d2, d3, _⟩ := h.get hkx
    obtain ⟨i1, i2, i3, i4, i5, i6⟩ := hl.el k hkx hk
    have HQ1 := hid (fun wq (q : Kept [] w wq) => HB1.out ▸ rcontains_any (cap := X[k].c1) (i5.keptN q).1 d)
    have HQ2 := hid (fun wq (q : Kept [] w wq) => HB2.out ▸ rcontains_any (cap := X[k].c2) (i6.keptN q).1 p)
    obtain ⟨b2, off2, ha2, hb2, hcl⟩ := StrsAt.get i6.1 (i := U[k].2.pl.length - 1) (by omega)
    have hlast : U[k].2.pl.getD (U[k].2.pl.length - 1) [] = U[k].2.pl[U[k].2.pl.length - 1]'(by omega) := by
      rw [List.getD_eq_getElem?_getD, List.getElem?_eq_getElem (by omega)]; rfl
    have hL : lastNe U[k].2.pl p.data.toList = !(U[k].2.pl[U[k].2.pl.length - 1]'(by omega) == p.data.toList) := by unfold lastNe; rw [hlast]
    rw [i2] at d1
    rw [i3] at d2
    rw [i4] at d3
    rw [ha2] at d2 HQ2
    obtain ⟨lst, HLST⟩ : ∃ x, Hid (x = U[k].2.pl[U[k].2.pl.length - 1]'(by omega)) := ⟨_, hid rfl⟩
    rw [← HLST.out] at hcl hL
    have hm1 : IntKind.i64.wrap ((U[k].2.pl.length : Int) - 1) = ((U[k].2.pl.length - 1 : Nat) : Int) := by rw [IntWalk.i64_in _ (by omega)]; omega
    have hm2 : (0 : Int) ≤ ((U[k].2.pl.length - 1 : Nat) : Int) := by omega
    have hm3 : ((U[k].2.pl.length - 1 : Nat) : Int) < U[k].2.pl.length := by omega
    have hn1 : IntKind.i64.wrap (U[k].2.at_ + 3600) = U[k].2.at_ + 3600 := IntWalk.i64_in _ (by omega)
    unfold sV at hcl
    have hb1 : (0 : Int) ≤ k := by omega
    have hb3 : (k : Int) < X.length := by omega
    have hkd : decide ((k : Int) < 0) = false := decide_eq_false (by omega)
    have hxl : X.length ≤ 256 := by rw [hl.len]; exact hlen
    clear hsome hpr hlast f1 f2 f3 f4 f5 f6 HLST hs h1 i1 i2 i3 i4 i5 i6 ha2 HFI h hl huq
    generalize U[k].2.pl.length - 1 = m at *
    generalize U[k].2.pl.length = N2 at *
    generalize U[k].2.dev.length = N1 at *
    generalize U[k].2.at_ = T at *
    generalize X[k].c1 = C1 at *
    generalize X[k].c2 = C2 at *
    generalize X[k].a1 = A1 at *
    generalize X[k].u = nm at *
    generalize X.length = xl at *
    have HD := hid (fun wq (q : Kept [] w wq) => And.intro ((q.cell (World.block_lt_of_cell? w _ d0) (by simp)).trans d0) (And.intro ((q.cell (World.block_lt_of_cell? w _ d1) (by simp)).trans d1) (And.intro ((q.cell (World.block_lt_of_cell? w _ d2) (by simp)).trans d2) (And.intro ((q.cell (World.block_lt_of_cell? w _ d3) (by simp)).trans d3) (And.intro ((q.cell (World.block_lt_of_cell? w _ c0) (by simp)).trans c0) ((q.cell (World.block_lt_of_cell? w _ hcl) (by simp)).trans hcl))))))
    obtain ⟨x0, x1, x2, x3, x4, x5⟩ := HD.out _ HKA.out
    have hbx1 := HBX0.out
    go_enter Try.func22, Try.ntmps22
    go_wp2_with (go_at_call 39; refine (HAT.out _ HKA.out).mono ?_; rw [e]; rintro e w' ⟨rfl, rfl⟩)
    have hbx := heap_alloc_new w (.cells #[.string ⟨nm.toArray⟩, .slice A1 N1 C1, .slice (some ⟨b2, off2, none⟩) N2 C2, .int .i64 T] 74 (0, 0))
    have hk0 := (Kept.refl [] w).alloc (.cells #[.string ⟨nm.toArray⟩, .slice A1 N1 C1, .slice (some ⟨b2, off2, none⟩) N2 C2, .int .i64 T] 74 (0, 0))
    have xl0 := (HD.out _ hk0).2.2.2.2.2
    have HBX := hid hbx
    have HK0 := hid hk0
    have XL := hid xl0
    clear x0 x1 x2 x3 x4 x5 hbx hk0 xl0 hbx1 c0 c1 d0 d1 d2 d3 hcl
    obtain ⟨w0, HW0⟩ : ∃ w0, Hid (w0 = w.alloc (.cells #[.string ⟨nm.toArray⟩, .slice A1 N1 C1, .slice (some ⟨b2, off2, none⟩) N2 C2, .int .i64 T] 74 (0, 0))) := ⟨_, hid rfl⟩
    rw [← HW0.out] at HBX HK0 XL ⊢
    have HC := hid (fun wq (k : Kept [] w0 wq) => And.intro (show wq.cell? ⟨w.heap.size, 1, none⟩ = some (.slice A1 N1 C1) by rw [cell_at (k.at HBX.out (by simp))]; rfl) (show wq.cell? ⟨w.heap.size, 2, none⟩ = some (.slice (some ⟨b2, off2, none⟩) N2 C2) by rw [cell_at (k.at HBX.out (by simp))]; rfl))
    have x1 : w0.cell? ⟨w.heap.size, 2, none⟩ = some (.slice (some ⟨b2, off2, none⟩) N2 C2) := by rw [cell_at HBX.out]; rfl
    have x2 : w0.cell? ⟨w.heap.size, 3, none⟩ = some (.int .i64 T) := by rw [cell_at HBX.out]; rfl
    have xl2 := XL.out
    cases hbe : (lst == p.data.toList)
    · have e1 : (lst == p.toList) = false := by rw [ByteArray.toList_eq]; exact hbe
      have e2 : (lst != p.toList) = true := by rw [bne, e1]; rfl
      have e3 : decide (lim now < T + 3600) = B3 := by rw [hT, hL, hbe]; rfl
      clear hT hL hbe
      go_quiet ((go_at_call 41; exact Calls.quiet_of_same ((limit_any _ _).mono fun _ _ h => ⟨h.1, h.2.symm⟩)))
      clear e1 e2 x1 x2 xl2 hm1 hm2 hm3 hn1
      go_wp2_with fail
      clear e3
      go_region_held3 (fun w' => w'.cell? ⟨w.heap.size, 1, none⟩ = some (.slice A1 N1 C1) ∧ w'.cell? ⟨w.heap.size, 2, none⟩ = some (.slice (some ⟨b2, off2, none⟩) N2 C2))
        (first
          | exact HC.out _ (((Kept.refl [] w0).drewN _).drew)
          | exact HC.out _ ((((Kept.refl [] w0).drewN _).drew).alloc _)
          | exact HC.out _ ((Kept.refl [] w0).drewN _))
        (first
          | (go_at_call 44; refine (bit_any _ _).mono ?_; rintro e w' ⟨rfl, rfl⟩)
          | (go_at_call 45; have _t := tok1; refine (HQ2.out _ (HK0.out.step ((((Kept.refl [] w0).drewN _).drew)) (by simp))).mono ?_; rintro e w' ⟨rfl, rfl⟩)
          | (go_at_call 45; refine (HQ1.out _ (HK0.out.step ((((Kept.refl [] w0).drewN _).drew)) (by simp))).mono ?_; rintro e w' ⟨rfl, rfl⟩; have tok1 : True := trivial))
      go_wp2_with fail
      go_ret
      rw [HE.out]
      exact ⟨_, 4, rfl, list_box encGOk (heap_alloc_new _ _) (by simp [rowV, encG, sV, sDevice, sPlace, sTravel, sFirst]) (by simp [maxLen]), (HK0.out.step ((((Kept.refl [] w0).drewN _).drew)) (by simp)).alloc _⟩
    · have e1 : (lst == p.toList) = true := by rw [ByteArray.toList_eq]; exact hbe
      have e2 : (lst != p.toList) = false := by rw [bne, e1]; rfl
      have e3 : B3 = false := by rw [hT, hL, hbe]; rfl
      clear hT hL hbe
      subst e3
      go_quiet ((go_at_call 41; exact Calls.quiet_of_same ((limit_any _ _).mono fun _ _ h => ⟨h.1, h.2.symm⟩)))
      clear e1 e2 x1 x2 xl2 hm1 hm2 hm3 hn1
      go_wp2_with fail
      go_region_held3 (fun w' => w'.cell? ⟨w.heap.size, 1, none⟩ = some (.slice A1 N1 C1) ∧ w'.cell? ⟨w.heap.size, 2, none⟩ = some (.slice (some ⟨b2, off2, none⟩) N2 C2))
        (first
          | exact HC.out _ (((Kept.refl [] w0).drewN _).drew)
          | exact HC.out _ ((((Kept.refl [] w0).drewN _).drew).alloc _)
          | exact HC.out _ ((Kept.refl [] w0).drewN _))
        (first
          | (go_at_call 44; refine (bit_any _ _).mono ?_; rintro e w' ⟨rfl, rfl⟩)
          | (go_at_call 45; have _t := tok1; refine (HQ2.out _ (HK0.out.step ((((Kept.refl [] w0).drewN _).drew)) (by simp))).mono ?_; rintro e w' ⟨rfl, rfl⟩)
          | (go_at_call 45; refine (HQ1.out _ (HK0.out.step ((((Kept.refl [] w0).drewN _).drew)) (by simp))).mono ?_; rintro e w' ⟨rfl, rfl⟩; have tok1 : True := trivial))
      go_wp2_with fail
      go_ret
      rw [HE.out]
      exact ⟨_, 4, rfl, list_box encGOk (heap_alloc_new _ _) (by simp [rowV, encG, sV, sDevice, sPlace, sTravel, sFirst]) (by simp [maxLen]), (HK0.out.step ((((Kept.refl [] w0).drewN _).drew)) (by simp)).alloc _⟩
end Go.Proofs.Ytbcbffmbpoffpaa
