/- Known, Drop, Signals of the program. -/
import Derived.Test.YtbcbffmbpoffpaaProf2
import Derived.IntWalk
namespace Go.Proofs.Ytbcbffmbpoffpaa
open Go.RowKit Go.Maps

def knownB (U : Users) (u d : Str) : Bool := hasS (prof U u).dev d
set_option maxHeartbeats 1000000 in
theorem known_any {w : World} {pb mb : Nat} {U : Users} (h : ProfsAt w pb mb U) (u d : ByteArray) (hu : u.size ≤ maxLen) :
    Calls Try.prog 23 #[.pointer (some ⟨pb, 0, none⟩), .string u, .string d] w fun e w' => e = .returned (.bool (knownB U u.data.toList d.data.toList)) ∧ w = w' := by
  have c0 := h.c0
  obtain ⟨v, hv, hl1, hl2⟩ := h.look u hu
  obtain ⟨a1, cc1, a2, cc2, rfl, s1, s2⟩ := hv
  have HC := hid (contains_any (cap := cc1) s1.1 d)
  clear hl1 s1 s2 h
  have hfld : ∀ (x y z : Value) (w : World), (Instr.field 69 (.agg #[x, y, z]) 0).run Try.prog w = .ok x w := fun _ _ _ _ => by kernel_rfl
  go_enter Try.func23, Try.ntmps23
  go_wp2_with (first
    | (go_at_call 36; refine (ready_any c0).mono ?_; rintro e w' ⟨rfl, rfl⟩)
    | (go_at_call 43; refine HC.out.mono ?_; rintro e w' ⟨rfl, rfl⟩))
  go_ret
  exact ⟨rfl, rfl⟩
set_option maxHeartbeats 1000000 in
theorem drop_any {w : World} {pb mb : Nat} {U : Users} (h : ProfsAt w pb mb U) (u : ByteArray) (hu : u.size ≤ maxLen) :
    Calls Try.prog 25 #[.pointer (some ⟨pb, 0, none⟩), .string u] w fun e w' => e = .returned (.bool (alook U u.data.toList).isSome) ∧ ProfsAt w' pb mb (adel U u.data.toList) ∧ Kept [mb] w w' := by
  have c0 := h.c0
  have hpbl := lt_of_heap h.blk
  obtain ⟨v, hv, hl1, hl2⟩ := h.look u hu
  obtain ⟨a1, cc1, a2, cc2, rfl, s1, s2⟩ := hv
  have hk := (Kept.refl [] w).alloc (.cells #[.slice a1 (prof U u.data.toList).dev.length cc1, .slice a2 (prof U u.data.toList).pl.length cc2, .int .i64 (prof U u.data.toList).at_] 69 (0, 0))
  have hd := fun ty => (h.keptN hk).drop u hu ty
  have HD := hid hd
  obtain ⟨Bs, HBs⟩ : ∃ Bs, Hid (Bs = (alook U u.data.toList).isSome) := ⟨_, hid rfl⟩
  rw [← HBs.out] at hl1
  have HK := hid hk
  clear hl2 s1 s2 h hk hd
  obtain ⟨w9, hr9, hm9, k9⟩ := HD.out 0
  go_enter Try.func25, Try.ntmps25
  go_wp2_with (go_at_call 36; refine (ready_any c0).mono ?_; rintro e w' ⟨rfl, rfl⟩)
  go_ret
  rw [← HBs.out]
  exact ⟨rfl, hm9, HK.out.mono (T := [mb]) (by simp) |>.step k9 (by simp)⟩

/-! ### Signals -/
def lastNe (l : List Str) (p : Str) : Bool := !(l.getD (l.length - 1) [] == p)
def travB (U : Users) (u p : Str) (now : Int) : Bool := (alook U u).isSome && lastNe (prof U u).pl p && decide (lim now < (prof U u).at_ + 3600)
def sDevice : Str := [100, 101, 118, 105, 99, 101]
def sPlace : Str := [112, 108, 97, 99, 101]
def sTravel : Str := [116, 114, 97, 118, 101, 108]
def sFirst : Str := [102, 105, 114, 115, 116]
def sigsL (U : Users) (u d p : Str) (now : Int) : List Sig := [(sDevice, bitZ (!hasS (prof U u).dev d)), (sPlace, bitZ (!hasS (prof U u).pl p)), (sTravel, bitZ (travB U u p now)), (sFirst, bitZ (!(alook U u).isSome))]
def SigGives (w w' : World) (e : Ending) (l : List Sig) : Prop := ∃ a c, e = .returned (.slice a l.length c) ∧ SigsAt w' a l ∧ Kept [] w w'

set_option maxHeartbeats 2000000 in
set_option maxRecDepth 100000 in
theorem signals_any {w : World} {pb mb : Nat} {U : Users} (h : ProfsAt w pb mb U) (u d p : ByteArray) (hu : u.size ≤ maxLen) (now : Int) :
    Calls Try.prog 21 #[.pointer (some ⟨pb, 0, none⟩), .string u, .string d, .string p, .int .i64 now] w fun e w' => SigGives w w' e (sigsL U u.data.toList d.data.toList p.data.toList now) := by
  have c0 := h.c0
  have hpbl := lt_of_heap h.blk
  obtain ⟨v, hv, hl1, hl2⟩ := h.look u hu
  obtain ⟨a1, cc1, a2, cc2, rfl, s1, s2⟩ := hv
  have hf := prof_fits h.fit u.data.toList
  have HFI := hid (h.fit u.data.toList)
  have hbx := heap_alloc_new w (.cells #[.slice a1 (prof U u.data.toList).dev.length cc1, .slice a2 (prof U u.data.toList).pl.length cc2, .int .i64 (prof U u.data.toList).at_] 69 (0, 0))
  have hk0 := (Kept.refl [] w).alloc (.cells #[.slice a1 (prof U u.data.toList).dev.length cc1, .slice a2 (prof U u.data.toList).pl.length cc2, .int .i64 (prof U u.data.toList).at_] 69 (0, 0))
  have HK0 := hid hk0
  obtain ⟨B1, HB1⟩ : ∃ B, Hid (B = hasS (prof U u.data.toList).dev d.data.toList) := ⟨_, hid rfl⟩
  obtain ⟨B2, HB2⟩ : ∃ B, Hid (B = hasS (prof U u.data.toList).pl p.data.toList) := ⟨_, hid rfl⟩
  obtain ⟨B3, HB3⟩ : ∃ B, Hid (B = travB U u.data.toList p.data.toList now) := ⟨_, hid rfl⟩
  have HC1 := hid (fun wq (k : Kept [] w wq) => HB1.out ▸ contains_any (cap := cc1) (s1.keptN k).1 d)
  have HC2 := hid (fun wq (k : Kept [] w wq) => HB2.out ▸ contains_any (cap := cc2) (s2.keptN k).1 p)
  have HS2 := hid s2
  have HE := hid (show sigsL U u.data.toList d.data.toList p.data.toList now = [(sDevice, bitZ (!B1)), (sPlace, bitZ (!B2)), (sTravel, bitZ B3), (sFirst, bitZ (!(alook U u.data.toList).isSome))] by rw [HB1.out, HB2.out, HB3.out]; rfl)
  have HBX := hid hbx
  clear s1 s2 h hl2 hbx hk0
  cases hsome : (alook U u.data.toList).isSome
  · rw [hsome] at hl1 HE
    have h3 : B3 = false := by rw [HB3.out]; simp [travB, hsome]
    subst h3
    clear hsome
    go_enter Try.func21, Try.ntmps21
    go_wp2_with (go_at_call 36; refine (ready_any c0).mono ?_; rintro e w' ⟨rfl, rfl⟩)
    obtain ⟨w0, HW0⟩ : ∃ w0, Hid (w0 = w.alloc (.cells #[.slice a1 (prof U u.data.toList).dev.length cc1, .slice a2 (prof U u.data.toList).pl.length cc2, .int .i64 (prof U u.data.toList).at_] 69 (0, 0))) := ⟨_, hid rfl⟩
    rw [← HW0.out] at HBX HK0 ⊢
    have HC := hid (fun wq (k : Kept [] w0 wq) => And.intro (show wq.cell? ⟨w.heap.size, 0, none⟩ = some (.slice a1 (prof U u.data.toList).dev.length cc1) by rw [cell_at (k.at HBX.out (by simp))]; rfl) (show wq.cell? ⟨w.heap.size, 1, none⟩ = some (.slice a2 (prof U u.data.toList).pl.length cc2) by rw [cell_at (k.at HBX.out (by simp))]; rfl))
    go_quiet (fail)
    go_wp2_with fail
    go_region_held3 (fun w' => w'.cell? ⟨w.heap.size, 0, none⟩ = some (.slice a1 (prof U u.data.toList).dev.length cc1) ∧ w'.cell? ⟨w.heap.size, 1, none⟩ = some (.slice a2 (prof U u.data.toList).pl.length cc2))
      (first
        | exact HC.out _ ((((j8)).alloc _))
        | exact HC.out _ j8
        | exact HC.out _ j7
        | exact HC.out _ j6
        | exact HC.out _ j5
        | exact HC.out _ ((Kept.refl [] w0).drewN _)
        | exact HC.out _ (((Kept.refl [] w0).drewN _).drew))
      (first
        | (go_at_call 42; refine (signal_any _ _ _).mono ?_; rintro e w8 ⟨rfl, k8⟩; have j8 := j7.step k8 (by simp))
        | (go_at_call 42; refine (signal_any _ _ _).mono ?_; rintro e w7 ⟨rfl, k7⟩; have j7 := j6.step k7 (by simp))
        | (go_at_call 42; refine (signal_any _ _ _).mono ?_; rintro e w6 ⟨rfl, k6⟩; have j6 := j5.step k6 (by simp))
        | (go_at_call 42; refine (signal_any _ _ _).mono ?_; rintro e w5 ⟨rfl, k5⟩; have j5 : Kept [] w0 w5 := (((Kept.refl [] w0).drewN _).drew).step k5 (by simp))
        | (go_at_call 43; refine (HC2.out _ (HK0.out.step j5 (by simp))).mono ?_; rintro e w' ⟨rfl, rfl⟩)
        | (go_at_call 43; refine (HC1.out _ (HK0.out.step ((((Kept.refl [] w0).drewN _).drew)) (by simp))).mono ?_; rintro e w' ⟨rfl, rfl⟩))
    go_wp2_with fail
    go_ret
    rw [HE.out]
    exact ⟨_, 4, rfl, list_box encGOk (heap_alloc_new _ _) (by simp [rowV, encG, sV, sDevice, sPlace, sTravel, sFirst]) (by simp [maxLen]), (HK0.out.step j8 (by simp)).alloc _⟩
  · rw [hsome] at hl1 HE
    obtain ⟨q, hq⟩ := Option.isSome_iff_exists.1 hsome
    have hfit : Fits (prof U u.data.toList) := by
      have := HFI.out q hq
      unfold prof; rw [hq]; exact this
    obtain ⟨f1, f2, f3, f4, f5, f6⟩ := hfit
    obtain ⟨b2, off2, ha2, hb2, hcl⟩ := StrsAt.get HS2.out.1 (i := (prof U u.data.toList).pl.length - 1) (by omega)
    have hlast : (prof U u.data.toList).pl.getD ((prof U u.data.toList).pl.length - 1) [] = (prof U u.data.toList).pl[(prof U u.data.toList).pl.length - 1]'(by omega) := by
      rw [List.getD_eq_getElem?_getD, List.getElem?_eq_getElem (by omega)]; rfl
    have hT : B3 = (lastNe (prof U u.data.toList).pl p.data.toList && decide (lim now < (prof U u.data.toList).at_ + 3600)) := by rw [HB3.out]; simp [travB, hsome]
    have hL : lastNe (prof U u.data.toList).pl p.data.toList = !((prof U u.data.toList).pl[(prof U u.data.toList).pl.length - 1]'(by omega) == p.data.toList) := by unfold lastNe; rw [hlast]
    obtain ⟨lst, HLST⟩ : ∃ x, Hid (x = (prof U u.data.toList).pl[(prof U u.data.toList).pl.length - 1]'(by omega)) := ⟨_, hid rfl⟩
    rw [← HLST.out] at hcl hL
    subst ha2
    have hm1 : IntKind.i64.wrap (((prof U u.data.toList).pl.length : Int) - 1) = (((prof U u.data.toList).pl.length - 1 : Nat) : Int) := by rw [IntWalk.i64_in _ (by omega)]; omega
    have hm2 : (0 : Int) ≤ (((prof U u.data.toList).pl.length - 1 : Nat) : Int) := by omega
    have hm3 : (((prof U u.data.toList).pl.length - 1 : Nat) : Int) < (prof U u.data.toList).pl.length := by omega
    have hn1 : IntKind.i64.wrap ((prof U u.data.toList).at_ + 3600) = (prof U u.data.toList).at_ + 3600 := IntWalk.i64_in _ (by omega)
    unfold sV at hcl
    clear hsome hlast f1 f2 f3 f4 f5 f6 hf HLST hq
    generalize (prof U u.data.toList).pl.length - 1 = m at *
    go_enter Try.func21, Try.ntmps21
    go_wp2_with (go_at_call 36; refine (ready_any c0).mono ?_; rintro e w' ⟨rfl, rfl⟩)
    have hcl0 := (HK0.out.cell (p := ⟨b2, off2 + m, none⟩) (World.block_lt_of_cell? w _ hcl) (by simp)).trans hcl
    have HCL := hid hcl0
    obtain ⟨w0, HW0⟩ : ∃ w0, Hid (w0 = w.alloc (.cells #[.slice a1 (prof U u.data.toList).dev.length cc1, .slice (some ⟨b2, off2, none⟩) (prof U u.data.toList).pl.length cc2, .int .i64 (prof U u.data.toList).at_] 69 (0, 0))) := ⟨_, hid rfl⟩
    rw [← HW0.out] at HBX HK0 HCL ⊢
    clear hcl hcl0
    have HC := hid (fun wq (k : Kept [] w0 wq) => And.intro (show wq.cell? ⟨w.heap.size, 0, none⟩ = some (.slice a1 (prof U u.data.toList).dev.length cc1) by rw [cell_at (k.at HBX.out (by simp))]; rfl) (show wq.cell? ⟨w.heap.size, 1, none⟩ = some (.slice (some ⟨b2, off2, none⟩) (prof U u.data.toList).pl.length cc2) by rw [cell_at (k.at HBX.out (by simp))]; rfl))
    have x1 : w0.cell? ⟨w.heap.size, 1, none⟩ = some (.slice (some ⟨b2, off2, none⟩) (prof U u.data.toList).pl.length cc2) := by rw [cell_at HBX.out]; rfl
    have x2 : w0.cell? ⟨w.heap.size, 2, none⟩ = some (.int .i64 (prof U u.data.toList).at_) := by rw [cell_at HBX.out]; rfl
    have xl := HCL.out
    cases hbe : (lst == p.data.toList)
    · have e1 : (lst == p.toList) = false := by rw [ByteArray.toList_eq]; exact hbe
      have e2 : (lst != p.toList) = true := by simp [bne, e1]
      have e3 : decide (lim now < (prof U u.data.toList).at_ + 3600) = B3 := by rw [hT, hL, hbe]; rfl
      clear hT hL hbe
      go_quiet ((go_at_call 30; exact Calls.quiet_of_same ((add0_any _ _).mono fun _ _ h => ⟨h.1, h.2.symm⟩)))
      clear e1 e2 x1 x2 xl hm1 hm2 hm3 hn1
      go_wp2_with fail
      clear e3
      go_region_held3 (fun w' => w'.cell? ⟨w.heap.size, 0, none⟩ = some (.slice a1 (prof U u.data.toList).dev.length cc1) ∧ w'.cell? ⟨w.heap.size, 1, none⟩ = some (.slice (some ⟨b2, off2, none⟩) (prof U u.data.toList).pl.length cc2))
        (first
          | exact HC.out _ ((((j8)).alloc _))
          | exact HC.out _ j8
          | exact HC.out _ j7
          | exact HC.out _ j6
          | exact HC.out _ j5
          | exact HC.out _ ((Kept.refl [] w0).drewN _)
          | exact HC.out _ (((Kept.refl [] w0).drewN _).drew))
        (first
          | (go_at_call 42; refine (signal_any _ _ _).mono ?_; rintro e w8 ⟨rfl, k8⟩; have j8 := j7.step k8 (by simp))
          | (go_at_call 42; refine (signal_any _ _ _).mono ?_; rintro e w7 ⟨rfl, k7⟩; have j7 := j6.step k7 (by simp))
          | (go_at_call 42; refine (signal_any _ _ _).mono ?_; rintro e w6 ⟨rfl, k6⟩; have j6 := j5.step k6 (by simp))
          | (go_at_call 42; refine (signal_any _ _ _).mono ?_; rintro e w5 ⟨rfl, k5⟩; have j5 : Kept [] w0 w5 := (((Kept.refl [] w0).drewN _).drew).step k5 (by simp))
          | (go_at_call 43; refine (HC2.out _ (HK0.out.step j5 (by simp))).mono ?_; rintro e w' ⟨rfl, rfl⟩)
          | (go_at_call 43; refine (HC1.out _ (HK0.out.step ((((Kept.refl [] w0).drewN _).drew)) (by simp))).mono ?_; rintro e w' ⟨rfl, rfl⟩))
      go_wp2_with fail
      go_ret
      rw [HE.out]
      exact ⟨_, 4, rfl, list_box encGOk (heap_alloc_new _ _) (by simp [rowV, encG, sV, sDevice, sPlace, sTravel, sFirst]) (by simp [maxLen]), (HK0.out.step j8 (by simp)).alloc _⟩
    · have e1 : (lst == p.toList) = true := by rw [ByteArray.toList_eq]; exact hbe
      have e2 : (lst != p.toList) = false := by simp [bne, e1]
      have e3 : B3 = false := by rw [hT, hL, hbe]; rfl
      clear hT hL hbe
      subst e3
      go_quiet ((go_at_call 30; exact Calls.quiet_of_same ((add0_any _ _).mono fun _ _ h => ⟨h.1, h.2.symm⟩)))
      clear e1 e2 x1 x2 xl hm1 hm2 hm3 hn1
      go_wp2_with fail
      go_region_held3 (fun w' => w'.cell? ⟨w.heap.size, 0, none⟩ = some (.slice a1 (prof U u.data.toList).dev.length cc1) ∧ w'.cell? ⟨w.heap.size, 1, none⟩ = some (.slice (some ⟨b2, off2, none⟩) (prof U u.data.toList).pl.length cc2))
        (first
          | exact HC.out _ ((((j8)).alloc _))
          | exact HC.out _ j8
          | exact HC.out _ j7
          | exact HC.out _ j6
          | exact HC.out _ j5
          | exact HC.out _ ((Kept.refl [] w0).drewN _)
          | exact HC.out _ (((Kept.refl [] w0).drewN _).drew))
        (first
          | (go_at_call 42; refine (signal_any _ _ _).mono ?_; rintro e w8 ⟨rfl, k8⟩; have j8 := j7.step k8 (by simp))
          | (go_at_call 42; refine (signal_any _ _ _).mono ?_; rintro e w7 ⟨rfl, k7⟩; have j7 := j6.step k7 (by simp))
          | (go_at_call 42; refine (signal_any _ _ _).mono ?_; rintro e w6 ⟨rfl, k6⟩; have j6 := j5.step k6 (by simp))
          | (go_at_call 42; refine (signal_any _ _ _).mono ?_; rintro e w5 ⟨rfl, k5⟩; have j5 : Kept [] w0 w5 := (((Kept.refl [] w0).drewN _).drew).step k5 (by simp))
          | (go_at_call 43; refine (HC2.out _ (HK0.out.step j5 (by simp))).mono ?_; rintro e w' ⟨rfl, rfl⟩)
          | (go_at_call 43; refine (HC1.out _ (HK0.out.step ((((Kept.refl [] w0).drewN _).drew)) (by simp))).mono ?_; rintro e w' ⟨rfl, rfl⟩))
      go_wp2_with fail
      go_ret
      rw [HE.out]
      exact ⟨_, 4, rfl, list_box encGOk (heap_alloc_new _ _) (by simp [rowV, encG, sV, sDevice, sPlace, sTravel, sFirst]) (by simp [maxLen]), (HK0.out.step j8 (by simp)).alloc _⟩
end Go.Proofs.Ytbcbffmbpoffpaa
