/- Open and Cancel of the program. -/
import Derived.Test.YtionejokdfgmhaaWf4
namespace Go.Proofs.Ytionejokdfgmhaa
open Go.RowKit Go.Maps

def openB (x : Proc) (g : Str) (t : Int) : Bool := stS x t == sPending && grpS x == g
def openL (U : Wfs) (g : Str) (now : Int) : List Str := sortS ((U.filter fun p => openB p.2 g (lim now)).map (·.1))
/-- A list of strings in a new block is handed back. -/
def Gives (w w' : World) (e : Ending) (l : List Str) : Prop := ∃ a c, e = .returned (.slice a l.length c) ∧ StrsAt w' a l ∧ (∀ i ∈ fp a, w.heap.size ≤ i) ∧ Kept [] w w'
/-- What has been found, and what is still to come. -/
def Found (f : Str × PP → Bool) (X T : PXs) (out : List Str) : Prop := (out ++ (T.filter f).map (·.1)).Perm ((X.filter f).map (·.1))
theorem Found.start (f : Str × PP → Bool) (X : PXs) : Found f X X [] := List.Perm.refl _
theorem Found.yes {f : Str × PP → Bool} {X T : PXs} {out : List Str} (h : Found f X T out) (hu : AUniq T) {k : Str} {x : PP} (hm : (k, x) ∈ T) (hf : f (k, x) = true) : Found f X (adel T k) (out ++ [k]) := by
  refine List.Perm.trans ?_ h
  have h1 := ((perm_del hu hm).filter f).map (·.1)
  rw [List.filter_cons_of_pos hf] at h1
  rw [List.append_assoc]
  exact (h1.append_left out).symm
theorem Found.no {f : Str × PP → Bool} {X T : PXs} {out : List Str} (h : Found f X T out) (hu : AUniq T) {k : Str} {x : PP} (hm : (k, x) ∈ T) (hf : f (k, x) = false) : Found f X (adel T k) out := by
  refine List.Perm.trans ?_ h
  have h1 := ((perm_del hu hm).filter f).map (·.1)
  rw [List.filter_cons_of_neg (by rw [hf]; simp)] at h1
  exact (h1.append_left out).symm
theorem Found.len {f : Str × PP → Bool} {X T : PXs} {out : List Str} (h : Found f X T out) : out.length ≤ X.length := by
  have := h.length_eq
  have h2 := List.length_filter_le f X
  simp at this
  omega
theorem Found.done {f : Str × PP → Bool} {X : PXs} {out : List Str} (h : Found f X [] out) : sortS out = sortS ((X.filter f).map (·.1)) := by
  unfold Found at h
  simp only [List.filter_nil, List.map_nil, List.append_nil] at h
  exact sortS_of_perm h
theorem open_abs (X : PXs) (g : Str) (now : Int) : openL (absW X) g now = sortS ((X.filter fun p => openB p.2.x g (lim now)).map (·.1)) := by
  unfold openL absW
  rw [List.filter_map, List.map_map]
  rfl

set_option maxHeartbeats 8000000 in
set_option maxRecDepth 100000 in
theorem open_any {w : World} {wb mb : Nat} {X : PXs} (h : WfAt w wb mb X) (g : ByteArray) (now : Int) :
    Calls Try.prog 20 #[.pointer (some ⟨wb, 0, none⟩), .string g, .int .i64 now] w fun e w' => Gives w w' e (openL (absW X) g.data.toList now) := by
  have c0 := h.c0
  have hlen := h.len
  have HD := hid (show w.heap.size ∉ pdom pdm mb X from fun hi => by have := h.map.lt procLaw _ hi; omega)
  rw [open_abs]
  obtain ⟨f, HF⟩ : ∃ f : Str × PP → Bool, Hid (f = fun p => openB p.2.x g.data.toList (lim now)) := ⟨_, hid rfl⟩
  rw [← HF.out]
  go_enter Try.func20, Try.ntmps20
  go_wp2_with (first
    | (go_at_call 35; refine (made_any c0).mono ?_; rintro e w' ⟨rfl, rfl⟩)
    | (at_range; refine wp_prange procLaw h.map rfl _ 56 rfl 66 lawS Try.underlying56 rfl ?_; intro w0 hrg0 hk0 hs0))
  go_frame
  go_loopw [7] (fun v wr => ∃ (out : List Str) (a' : Option Addr) (cap' : Nat) (T : PXs) (cnt : Nat), v = .slice a' out.length cap' ∧ PRange Try.prog 9 ProcAt pdm PP.p wr mb w.heap.size X T cnt ∧ Found f X T out ∧ OwnL 9 1 encS w wr a' cap' out ∧ w.heap.size ∉ fp a') (fun _ wr => wr.rangeLeft mb w.heap.size)
  case atStart => exact ⟨[], none, 0, X, _, rfl, hrg0, Found.start _ _, ⟨World.ownsRow_nil _ _ _ _, hk0, by simp [fp]⟩, by simp [fp]⟩
  case round =>
    obtain ⟨out, a', cap', T, cnt, rfl, hrg, hfd, ho, hnr⟩ := hrel
    have HRG := hid hrg
    have HFD := hid hfd
    have HO := hid ho
    have HNR := hid hnr
    have hol := hfd.len
    clear hrg hfd ho hnr hrg0 hk0 hs0
    go_wp2_with (first
      | (at_next; refine wp_pnext procLaw HRG.out HD.out rfl _ rfl lawS Try.underlying9 rfl ?_ ?_))
    · intro hT
      have HT := hid hT
      clear hT
      go_wp2_with (go_at_call 44; refine (sort_any HO.out (by omega)).mono ?_; rintro e w5 ⟨rfl, o5, k5⟩)
      go_ret
      have h5 := HFD.out
      rw [HT.out] at h5
      rw [← h5.done]
      have h6 := o5.seq encSOk
      exact ⟨a', cap', by rw [sortS_len]; rfl, h6, o5.new, o5.kept⟩
    · intro k x w1 cnt1 hkl hm hrg1 hlt1 hk1 hsz1 hen
      have hx1 := hrg1.each _ (HRG.out.sub _ hm)
      have HS := hid (fun n => Calls.quiet_of (state_any (hx1.drew n) (lim now)))
      have HL := hid (fun n => Calls.quiet_of_same (n := n) (w := w1) ((wlimited_any now (w1.drewN n)).mono fun _ _ h => ⟨h.1, h.2.symm⟩))
      have HG := hid (fun n => Calls.quiet_of_same (n := n) (w := w1) ((group_any (hx1.drew n)).mono fun _ _ h => ⟨h.1, h.2.symm⟩))
      have c5 := hx1.cell 5
      simp [procV] at c5
      have HRG1 := hid hrg1
      have HX1 := hid hx1
      have HO1 := hid (HO.out.beside hk1 (fun i hi => by simp at hi; omega) (fun i hi => by simp at hi; rw [hi]; exact HNR.out))
      have HFV := hid (show f (k, x) = (stS x.x (lim now) == sPending && grpS x.x == g.data.toList) by rw [HF.out]; rfl)
      have HYES := hid (fun hf => HFD.out.yes HRG.out.tuniq hm hf)
      have HNO := hid (fun hf => HFD.out.no HRG.out.tuniq hm hf)
      have HM := hid (show cnt1 < wr.rangeLeft mb w.heap.size by rw [HRG.out.run.left_eq]; exact hlt1)
      have HHS := hid (show w.heap.size < w1.heap.size from hrg1.run.lt)
      unfold sV at HS HG
      clear hrg1 hx1 hk1 hm hlt1 hsz1 HO HFD HRG
      generalize stS x.x (lim now) = R at *
      generalize grpS x.x = G at *
      cases e1 : (R == sPending)
      · rw [e1] at HFV
        unfold sPending at e1
        have HFN := hid (HNO.out (by rw [HFV.out]; rfl))
        go_wp2_with fail
        go_quiet ((first
          | (go_at_call 37; with_reducible exact HL.out _)
          | (go_at_call 36; with_reducible exact HS.out _)))
        go_wp2_with fail
        go_roundw
        case rel => exact ⟨out, a', cap', _, cnt1, rfl, HRG1.out.keptN procLaw ((Kept.refl [] w1).drewN _), HFN.out, HO1.out.later ((Kept.refl [] w1).drewN _), HNR.out⟩
        case measure => rw [(HRG1.out.keptN procLaw ((Kept.refl [] w1).drewN _)).run.left_eq]; exact HM.out
      · cases e2 : (G == g.data.toList)
        · rw [e1, e2] at HFV
          unfold sPending at e1
          rw [← ByteArray.toList_eq] at e2
          have HFN := hid (HNO.out (by rw [HFV.out]; rfl))
          go_wp2_with fail
          go_quiet ((first
            | (go_at_call 37; with_reducible exact HL.out _)
            | (go_at_call 36; with_reducible exact HS.out _)
            | (go_at_call 43; with_reducible exact HG.out _)))
          go_wp2_with fail
          go_roundw
          case rel => exact ⟨out, a', cap', _, cnt1, rfl, HRG1.out.keptN procLaw ((Kept.refl [] w1).drewN _), HFN.out, HO1.out.later ((Kept.refl [] w1).drewN _), HNR.out⟩
          case measure => rw [(HRG1.out.keptN procLaw ((Kept.refl [] w1).drewN _)).run.left_eq]; exact HM.out
        · rw [e1, e2] at HFV
          unfold sPending at e1
          rw [← ByteArray.toList_eq] at e2
          have HFY := hid (HYES.out (by rw [HFV.out]; rfl))
          obtain ⟨M, HMM⟩ : ∃ M, Hid (M = out ++ [k]) := ⟨_, hid rfl⟩
          have HP4 := hid (fun (n : Nat) (o : Obj) wq (kq : Kept (fp a') ((w1.drewN n).alloc o) wq) => (HRG1.out.keptN procLaw (((Kept.refl [] w1).drewN n).alloc o)).kept procLaw kq (fun i hi hm => by have h1 := h.map.lt procLaw i hi; have h2 := HO1.out.new i hm; omega) HNR.out)
          go_wp2_with fail
          go_quiet ((first
            | (go_at_call 37; with_reducible exact HL.out _)
            | (go_at_call 36; with_reducible exact HS.out _)
            | (go_at_call 43; with_reducible exact HG.out _)))
          go_wp2_with (at_builtin; refine wp_appL encSOk Try.underlying30 HMM.out ((HO1.out.later ((Kept.refl [] w1).drewN _)).later ((Kept.refl [] _).alloc _)) (box_str _ ⟨k.toArray⟩ _) (show out.length + [k].length ≤ 1000000 by simp; omega) rfl _ _ rfl rfl rfl rfl rfl ?_; intro a4 c4 w4 o4 k4 f4; go_frame)
          go_roundw
          case rel =>
            rw [← HMM.out] at HFY
            exact ⟨M, a4, c4, _, cnt1, rfl, HP4.out _ _ _ k4, HFY.out, o4, fun hi => (f4 _ hi).elim HNR.out (fun e => by have := HHS.out; simp at e; omega)⟩
          case measure => rw [(HP4.out _ _ _ k4).run.left_eq]; exact HM.out

/-! ### Cancel -/
def cancU (U : Wfs) (u : Str) : Wfs := U.filter fun p => !(p.2.user == u)
def cancN (U : Wfs) (u : Str) : Int := (U.length : Int) - (cancU U u).length
/-- What is left while the range goes on. -/
def Swept (f : Str × PP → Bool) (X0 X T : PXs) : Prop := X = X0.filter fun p => T.any (fun q => q.1 == p.1) || !f p
theorem Swept.start (f : Str × PP → Bool) (X : PXs) : Swept f X X X := by
  unfold Swept
  rw [List.filter_eq_self.2]
  intro p hp
  rw [List.any_eq_true.2 ⟨p, hp, by simp⟩]; rfl
theorem Swept.sub {f : Str × PP → Bool} {X0 X T : PXs} (h : Swept f X0 X T) : ∀ p ∈ X, p ∈ X0 := by
  intro p hp
  rw [h] at hp
  exact (List.mem_filter.1 hp).1
theorem any_del (T : PXs) (k k' : Str) : (adel T k).any (fun q => q.1 == k') = (T.any (fun q => q.1 == k') && !(k' == k)) := by
  unfold adel
  induction T with
  | nil => simp
  | cons a r ih =>
    rw [List.filter_cons, List.any_cons]
    by_cases e : a.1 = k
    · rw [if_neg (by simp [e]), ih]
      by_cases e2 : k' = k
      · simp [e2]
      · have : (a.1 == k') = false := by rw [e]; simpa using fun h => e2 h.symm
        simp [this]
    · rw [if_pos (by simpa using e), List.any_cons, ih]
      by_cases e2 : k' = k
      · have : (a.1 == k') = false := by rw [e2]; simpa using e
        simp [e2, e]
      · have : (k' == k) = false := by simpa using e2
        simp [this]
theorem Swept.yes {f : Str × PP → Bool} {X0 X T : PXs} (h : Swept f X0 X T) (hu : AUniq X0) {k : Str} {x : PP} (hm : (k, x) ∈ X0) (hf : f (k, x) = true) : Swept f X0 (adel X k) (adel T k) := by
  unfold Swept at h ⊢
  conv => lhs; unfold adel; rw [h]
  rw [List.filter_filter]
  apply List.filter_congr
  intro p hp
  rw [any_del]
  by_cases e : p.1 = k
  · have : p = (k, x) := by
      have h1 := alook_of_mem hu (show (p.1, p.2) ∈ X0 from hp)
      have h2 := alook_of_mem hu hm
      rw [e, h2] at h1
      injection h1 with h1
      rw [← e, h1]
    rw [this, hf]; simp
  · have : (p.1 == k) = false := by simpa using e
    simp [this]
theorem Swept.no {f : Str × PP → Bool} {X0 X T : PXs} (h : Swept f X0 X T) (hu : AUniq X0) {k : Str} {x : PP} (hm : (k, x) ∈ X0) (hf : f (k, x) = false) : Swept f X0 X (adel T k) := by
  unfold Swept at h ⊢
  rw [h]
  apply List.filter_congr
  intro p hp
  rw [any_del]
  by_cases e : p.1 = k
  · have : p = (k, x) := by
      have h1 := alook_of_mem hu (show (p.1, p.2) ∈ X0 from hp)
      have h2 := alook_of_mem hu hm
      rw [e, h2] at h1
      injection h1 with h1
      rw [← e, h1]
    rw [this, hf]; simp
  · have : (p.1 == k) = false := by simpa using e
    simp [this]
theorem Swept.done {f : Str × PP → Bool} {X0 X : PXs} (h : Swept f X0 X []) : X = X0.filter fun p => !f p := by
  unfold Swept at h
  simpa using h
theorem canc_abs (X : PXs) (u : Str) : absW (X.filter fun p => !(p.2.x.user == u)) = cancU (absW X) u := by
  unfold cancU absW
  rw [List.filter_map]
  rfl

set_option maxHeartbeats 8000000 in
set_option maxRecDepth 100000 in
theorem cancel_any {w : World} {wb mb : Nat} {X : PXs} (h : WfAt w wb mb X) (u : ByteArray) :
    Calls Try.prog 28 #[.pointer (some ⟨wb, 0, none⟩), .string u] w fun e w' => e = .returned (.int .i64 (cancN (absW X) u.data.toList)) ∧ Left w w' wb mb X (cancU (absW X) u.data.toList) := by
  have c0 := h.c0
  have hlen := h.len
  have HD := hid (show w.heap.size ∉ pdom pdm mb X from fun hi => by have := h.map.lt procLaw _ hi; omega)
  have hl0 := h.lenrun
  obtain ⟨f, HF⟩ : ∃ f : Str × PP → Bool, Hid (f = fun p => p.2.x.user == u.data.toList) := ⟨_, hid rfl⟩
  have HN := hid (show cancN (absW X) u.data.toList = (X.length : Int) - (X.filter fun p => !f p).length by unfold cancN; rw [← canc_abs, absW_len, absW_len, HF.out])
  have HW := hid (show absW (X.filter fun p => !f p) = cancU (absW X) u.data.toList by rw [HF.out]; exact canc_abs X _)
  rw [HN.out, ← HW.out]
  have hne : wb ≠ mb := fun e => h.out (pdom_mem.2 (.inl e))
  have hwbl := lt_of_heap h.blk
  go_enter Try.func28, Try.ntmps28
  go_wp2_with (first
    | (go_at_call 35; refine (made_any c0).mono ?_; rintro e w' ⟨rfl, rfl⟩)
    | (at_range; refine wp_prange procLaw h.map rfl _ 56 rfl 66 lawS Try.underlying56 rfl ?_; intro w0 hrg0 hk0 hs0))
  go_frame
  go_loopw [] (fun wr => ∃ (Y T : PXs) (cnt : Nat), PRange Try.prog 9 ProcAt pdm PP.p wr mb w.heap.size Y T cnt ∧ Swept f X Y T ∧ Kept [mb] w wr) (fun wr => wr.rangeLeft mb w.heap.size)
  case atStart => exact ⟨X, X, _, hrg0, Swept.start _ _, hk0.mono (by simp)⟩
  case round =>
    obtain ⟨Y, T, cnt, hrg, hsw, hkw⟩ := hrel
    have HRG := hid hrg
    have HSW := hid hsw
    have HKW := hid hkw
    have hc0 : wr.cell? ⟨wb, 0, none⟩ = some (.map (some mb)) := by rw [hkw.cell hwbl (by simpa using hne)]; exact c0
    have hyl : Y.length ≤ X.length := by rw [hsw]; exact List.length_filter_le _ _
    have hln := fun ty => hrg.pmap.len Try.underlying56 ty
    have HDY := hid (show w.heap.size ∉ pdom pdm mb Y from fun hi => HD.out (by
      rcases pdom_mem.1 hi with e | ⟨p, hp, hd⟩
      · exact pdom_mem.2 (.inl e)
      · exact pdom_mem.2 (.inr ⟨p, hsw.sub p hp, hd⟩)))
    clear hrg hsw hkw hrg0 hk0 hs0
    go_wp2_with (first
      | (at_next; refine wp_pnext procLaw HRG.out HDY.out rfl _ rfl lawS Try.underlying9 rfl ?_ ?_))
    · intro hT
      have HY := hid (show Y = X.filter fun p => !f p from Swept.done (by have := HSW.out; rwa [hT] at this))
      clear hT
      go_wp2_with fail
      go_ret
      rw [← HY.out]
      refine ⟨rfl, Y, ⟨HKW.out.at h.blk (by simpa using hne), HRG.out.pmap, fun hi => h.out ?_, by omega, fun p hp => h.inv p (HSW.out.sub p hp)⟩, rfl, HKW.out.mono (fun i hi => .inl (by simp at hi; rw [hi]; simp [wdom, pdom])), fun i hi => .inl ?_⟩
      · rcases pdom_mem.1 hi with e | ⟨p, hp, hd⟩
        · exact pdom_mem.2 (.inl e)
        · exact pdom_mem.2 (.inr ⟨p, HSW.out.sub p hp, hd⟩)
      · unfold wdom at hi ⊢
        rcases List.mem_cons.1 hi with e | hi
        · rw [e]; exact List.mem_cons_self ..
        · refine List.mem_cons_of_mem _ ?_
          rcases pdom_mem.1 hi with e | ⟨p, hp, hd⟩
          · exact pdom_mem.2 (.inl e)
          · exact pdom_mem.2 (.inr ⟨p, HSW.out.sub p hp, hd⟩)
    · intro k x w1 cnt1 hkl hm hrg1 hlt1 hk1 hsz1 hen
      have hx1 := hrg1.each _ (HRG.out.sub _ hm)
      have c1 := hx1.cell 1
      simp [procV, sV] at c1
      have HKW1 := hid (HKW.out.trans hk1 (fun i hi => .inr (by simp at hi; omega)))
      have hc1 : w1.cell? ⟨wb, 0, none⟩ = some (.map (some mb)) := by rw [HKW1.out.cell hwbl (by simpa using hne)]; exact c0
      have HRG1 := hid hrg1
      have HFV := hid (show f (k, x) = (x.x.user == u.data.toList) by rw [HF.out])
      have HYES := hid (fun hf => HSW.out.yes h.map.uniq (HSW.out.sub _ (HRG.out.sub _ hm)) hf)
      have HNO := hid (fun hf => HSW.out.no h.map.uniq (HSW.out.sub _ (HRG.out.sub _ hm)) hf)
      have HM := hid (show cnt1 < wr.rangeLeft mb w.heap.size by rw [HRG.out.run.left_eq]; exact hlt1)
      clear hrg1 hx1 hk1 hm hlt1 hsz1 hc0 hln
      generalize x.x.user = R at *
      cases e1 : (R == u.data.toList)
      · rw [e1] at HFV
        rw [← ByteArray.toList_eq] at e1
        have HFN := hid (HNO.out HFV.out)
        go_wp2_with fail
        go_roundw
        case rel => exact ⟨Y, _, cnt1, HRG1.out, HFN.out, HKW1.out⟩
        case measure => rw [HRG1.out.run.left_eq]; exact HM.out
      · rw [e1] at HFV
        rw [← ByteArray.toList_eq] at e1
        have HFY := hid (HYES.out HFV.out)
        go_wp2_with (at_delete; refine wp_pdelete procLaw HRG1.out rfl _ _ 56 rfl 66 lawS Try.underlying9 Try.underlying56 rfl k rfl hkl ?_; intro w2 cnt2 hrg2 hle2 hk2 hsz2; go_frame)
        have hdd : adel (adel T k) k = adel T k := by unfold adel; rw [List.filter_filter]; congr 1; funext p; simp
        rw [hdd] at hrg2
        go_roundw
        case rel => exact ⟨_, _, cnt2, hrg2, HFY.out, HKW1.out.step hk2 (by simp)⟩
        case measure => rw [hrg2.run.left_eq]; have := HM.out; omega
end Go.Proofs.Ytionejokdfgmhaa
