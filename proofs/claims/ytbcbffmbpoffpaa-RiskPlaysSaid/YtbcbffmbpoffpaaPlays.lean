/- RiskPlays: the walk. -/
import Derived.Test.YtbcbffmbpoffpaaOpsR
namespace Go.Proofs.Ytbcbffmbpoffpaa
open Go.RowKit Go.Maps

/-- What a call does to the users. -/
def stepU (U : Users) (x : OpD) : Users := if x.kind = 0 then obsU U x.u x.d x.p x.now else if x.kind = 3 then adel U x.u else U

theorem Both.fresh {w : World} {pb mb qb : Nat} {a : Option Addr} {cap : Nat} {X : List Raw} {U : Users} (h : Both w pb mb qb a cap X U) : w.heap.size ∉ mb :: qb :: fp a := by
  obtain ⟨L, hm, _⟩ := h.prog.map
  intro hi
  rcases List.mem_cons.1 hi with e | hi
  · have := hm.lt; omega
  · rcases List.mem_cons.1 hi with e | hi
    · have := lt_of_heap h.raw.blk; omega
    · obtain ⟨cur, hb⟩ := row_blk h.raw.row _ hi
      have := lt_of_heap hb; omega
set_option maxHeartbeats 4000000 in
set_option maxRecDepth 100000 in
theorem plays_walk {w : World} {a : Option Addr} {cap : Nat} {l : List OpD} (h : OpsAt w a l) :
    Calls Try.prog 4 #[.slice a l.length cap] w fun e w' => e = .returned (.bool true) ∧ Below w.heap.size w w' := by
  have hbr := hid (brief_any (cap := cap) h)
  by_cases t1 : briefB l = true
  · rw [t1] at hbr
    obtain ⟨hl30, hsm⟩ := brief_yes t1
    have HSM := hid hsm
    clear t1 hsm
    go_enter Try.func4, Try.ntmps4
    go_wp2_with fail
    refine hbr.out.mono ?_
    rintro e w' ⟨rfl, rfl⟩
    go_wp2_with fail
    refine (new_prof w).mono ?_
    rintro e w1 ⟨rfl, h1, k1, z1⟩
    generalize hpb : w.heap.size + 1 = pb at *
    generalize hmb : w.heap.size = mb at *
    have hmb2 : w.heap.size ≤ mb := Nat.le_of_eq hmb
    have HB1 := hid hmb2
    clear hpb hmb hmb2
    have H1 := hid h1
    clear h1
    go_wp2_with fail
    refine (new_ref w1).mono ?_
    rintro e w2 ⟨rfl, hr2, hl2, k2⟩
    have hqb : w.heap.size ≤ w1.heap.size := k1.size
    generalize hq : w1.heap.size = qb at *
    clear hq
    have HBO := hid (show Both w2 pb mb qb none 0 [] [] from ⟨H1.out.keptN k2, hr2, hl2⟩)
    have HQB := hid hqb
    have K2 := hid (k1.step k2 (by simp))
    clear hr2 hl2 hqb H1 z1 k1 k2
    go_wp2_with fail
    go_loopw [5] (fun i wr => ∃ (k : Nat) (U : Users) (a' : Option Addr) (cap' : Nat) (X : List Raw), k ≤ l.length ∧ i = .int .i64 k ∧ Both wr pb mb qb a' cap' X U ∧ Kept [] w wr ∧ (∀ j ∈ fp a', w.heap.size ≤ j)) (fun i _ => l.length - (intOf i).toNat)
    case atStart => exact ⟨0, [], none, 0, [], Nat.zero_le _, rfl, HBO.out, K2.out, by simp [fp]⟩
    case round =>
      obtain ⟨k, U, a', cap', X, hk, rfl, hbo, hkw, hfp⟩ := hrel
      have HH := hid hbo
      have HKW := hid hkw
      have HFP := hid hfp
      clear hbo hkw hfp HBO K2
      by_cases hlt : k < l.length
      · obtain ⟨b, off, rfl, hb, d0, d1, d2, d3, d4⟩ := OpsAt.get (h.keptN HKW.out) hlt
        have hb1 : (0 : Int) ≤ k := by omega
        have hb2 : (k : Int) < l.length := by omega
        have HS := hid (small_of (HSM.out _ (List.getElem_mem hlt)))
        have hob := heap_alloc_new wr (.cells #[.int .i64 l[k].kind, .string ⟨l[k].u.toArray⟩, .string ⟨l[k].d.toArray⟩, .string ⟨l[k].p.toArray⟩, .int .i64 l[k].now] 35 (0, 0))
        have hk0 := (Kept.refl [] wr).alloc (.cells #[.int .i64 l[k].kind, .string ⟨l[k].u.toArray⟩, .string ⟨l[k].d.toArray⟩, .string ⟨l[k].p.toArray⟩, .int .i64 l[k].now] 35 (0, 0))
        have HOB := hid hob
        have HK0 := hid hk0
        generalize hx : l[k] = x at *
        clear hob hk0 hx h
        by_cases x0 : x.kind = 0
        · have hq0 : (x.kind == 0) = true := by rw [beq_iff_eq]; exact x0
          clear x0
          go_wp2_with fail
          obtain ⟨w0, HW0⟩ : ∃ w0, Hid (w0 = wr.alloc (.cells #[.int .i64 x.kind, .string ⟨x.u.toArray⟩, .string ⟨x.d.toArray⟩, .string ⟨x.p.toArray⟩, .int .i64 x.now] 35 (0, 0))) := ⟨_, hid rfl⟩
          rw [← HW0.out] at HOB HK0 ⊢
          have HBD := hid (HH.out.keptN HK0.out.drew)
          have HCE := hid (fun (T : List Nat) wq (q : Kept T w0 wq) (hT : wr.heap.size ∉ T) => And.intro (show wq.cell? ⟨wr.heap.size, 1, none⟩ = some (.string ⟨x.u.toArray⟩) by rw [cell_at (q.at HOB.out hT)]; rfl) (And.intro (show wq.cell? ⟨wr.heap.size, 2, none⟩ = some (.string ⟨x.d.toArray⟩) by rw [cell_at (q.at HOB.out hT)]; rfl) (And.intro (show wq.cell? ⟨wr.heap.size, 3, none⟩ = some (.string ⟨x.p.toArray⟩) by rw [cell_at (q.at HOB.out hT)]; rfl) (show wq.cell? ⟨wr.heap.size, 4, none⟩ = some (.int .i64 x.now) by rw [cell_at (q.at HOB.out hT)]; rfl))))
          have HNE := hid (HH.out.fresh)
          obtain ⟨C, HC⟩ : ∃ C, Hid (C = obsC U x.u x.d x.p) := ⟨_, hid rfl⟩
          have hp1 : Calls Try.prog 18 #[.pointer (some ⟨pb, 0, none⟩), .string ⟨x.u.toArray⟩, .string ⟨x.d.toArray⟩, .string ⟨x.p.toArray⟩, .int .i64 x.now] w0.drew fun e w' => e = .returned (.int .i64 (obsC U x.u x.d x.p)) ∧ ProfsAt w' pb mb (obsU U x.u x.d x.p x.now) ∧ Kept [mb] w0.drew w' := observe_any HBD.out.prog ⟨x.u.toArray⟩ ⟨x.d.toArray⟩ ⟨x.p.toArray⟩ HS.out.u HS.out.d HS.out.p x.now
          have hr1 : ∀ w4, RefR w4 qb a' cap' X → Like w4 X U → Calls Try.prog 19 #[.pointer (some ⟨qb, 0, none⟩), .string ⟨x.u.toArray⟩, .string ⟨x.d.toArray⟩, .string ⟨x.p.toArray⟩, .int .i64 x.now] w4 fun e w' => e = .returned (.int .i64 (obsC U x.u x.d x.p)) ∧ RefOut w4 w' qb a' (obsU U x.u x.d x.p x.now) := fun w4 r l => robserve_any r l HBD.out.prog.fit HBD.out.prog.uniq HBD.out.prog.len ⟨x.u.toArray⟩ ⟨x.d.toArray⟩ ⟨x.p.toArray⟩ HS.out.u HS.out.d HS.out.p x.now
          rw [← HC.out] at hp1 hr1
          have HP1 := hid hp1
          have HR1 := hid hr1
          clear hp1 hr1
          go_region_held3 (fun w' => w'.cell? ⟨wr.heap.size, 1, none⟩ = some (.string ⟨x.u.toArray⟩) ∧ w'.cell? ⟨wr.heap.size, 2, none⟩ = some (.string ⟨x.d.toArray⟩) ∧ w'.cell? ⟨wr.heap.size, 3, none⟩ = some (.string ⟨x.p.toArray⟩) ∧ w'.cell? ⟨wr.heap.size, 4, none⟩ = some (.int .i64 x.now))
            (first
              | exact HCE.out (mb :: qb :: fp a') _ ((((Kept.refl [] w0).drew.mono (T := mb :: qb :: fp a') (by simp)).trans k4 (by simp)).trans k9 (fun i hi => .inl (List.mem_cons_of_mem _ hi))) HNE.out
              | exact HCE.out [mb] _ (((Kept.refl [] w0).drew.mono (T := [mb]) (by simp)).step k4 (by simp)) (fun hm => HNE.out (List.mem_cons.2 (.inl (by simpa using hm))))
              | exact HCE.out [] _ ((Kept.refl [] w0).drew) (by simp))
            (first
              | (go_at_call 19; refine (HR1.out _ r4 l4).mono ?_; rintro e w5 ⟨rfl, o5⟩; obtain ⟨a9, c9, X9, hbo9, k9, n9⟩ := HBD.out.step2 k4 p4 o5)
              | (go_at_call 18; refine HP1.out.mono ?_; rintro e w4 ⟨rfl, p4, k4⟩; obtain ⟨r4, l4⟩ := HBD.out.step1 k4))
          go_wp2_with fail
          go_roundw
          case rel =>
            have hk4 : Kept [] w w4 := (HKW.out.step HK0.out.drew (by simp)).trans k4 (fun i hi => .inr (by simp at hi; rw [hi]; exact HB1.out))
            refine ⟨k + 1, obsU U x.u x.d x.p x.now, a9, c9, X9, by omega, by go_num, hbo9, hk4.trans k9 (fun i hi => .inr ?_), fun i hi => ?_⟩
            · rcases List.mem_cons.1 hi with e | e
              · rw [e]; exact HQB.out
              · exact HFP.out i e
            · rcases n9 i hi with e | e
              · exact HFP.out i e
              · exact Nat.le_trans hk4.size e
          case measure => simp [intOf]; omega
        · have hq0 : (x.kind == 0) = false := by rw [beq_eq_false_iff_ne]; exact x0
          clear x0
          by_cases x1 : x.kind = 1
          · have hq1 : (x.kind == 1) = true := by rw [beq_iff_eq]; exact x1
            clear x1
            go_wp2_with fail
            obtain ⟨w0, HW0⟩ : ∃ w0, Hid (w0 = wr.alloc (.cells #[.int .i64 x.kind, .string ⟨x.u.toArray⟩, .string ⟨x.d.toArray⟩, .string ⟨x.p.toArray⟩, .int .i64 x.now] 35 (0, 0))) := ⟨_, hid rfl⟩
            rw [← HW0.out] at HOB HK0 ⊢
            have HBD := hid (HH.out.keptN HK0.out.drew)
            have HCE := hid (fun (T : List Nat) wq (q : Kept T w0 wq) (hT : wr.heap.size ∉ T) => And.intro (show wq.cell? ⟨wr.heap.size, 1, none⟩ = some (.string ⟨x.u.toArray⟩) by rw [cell_at (q.at HOB.out hT)]; rfl) (And.intro (show wq.cell? ⟨wr.heap.size, 2, none⟩ = some (.string ⟨x.d.toArray⟩) by rw [cell_at (q.at HOB.out hT)]; rfl) (And.intro (show wq.cell? ⟨wr.heap.size, 3, none⟩ = some (.string ⟨x.p.toArray⟩) by rw [cell_at (q.at HOB.out hT)]; rfl) (show wq.cell? ⟨wr.heap.size, 4, none⟩ = some (.int .i64 x.now) by rw [cell_at (q.at HOB.out hT)]; rfl))))
            have HNE := hid (HH.out.fresh)
            obtain ⟨sg, HSG⟩ : ∃ sg, Hid (sg = sigsL U x.u x.d x.p x.now) := ⟨_, hid rfl⟩
            have hp1 : Calls Try.prog 21 #[.pointer (some ⟨pb, 0, none⟩), .string ⟨x.u.toArray⟩, .string ⟨x.d.toArray⟩, .string ⟨x.p.toArray⟩, .int .i64 x.now] w0.drew fun e w' => SigGives w0.drew w' e (sigsL U x.u x.d x.p x.now) := signals_any HBD.out.prog ⟨x.u.toArray⟩ ⟨x.d.toArray⟩ ⟨x.p.toArray⟩ HS.out.u x.now
            have hr1 : ∀ w4, Both w4 pb mb qb a' cap' X U → Calls Try.prog 22 #[.pointer (some ⟨qb, 0, none⟩), .string ⟨x.u.toArray⟩, .string ⟨x.d.toArray⟩, .string ⟨x.p.toArray⟩, .int .i64 x.now] w4 fun e w' => SigGives w4 w' e (sigsL U x.u x.d x.p x.now) := fun w4 b => rsignals_any b.raw b.like b.prog.fit b.prog.uniq b.prog.len ⟨x.u.toArray⟩ ⟨x.d.toArray⟩ ⟨x.p.toArray⟩ x.now
            rw [← HSG.out] at hp1 hr1
            have HP1 := hid hp1
            have HR1 := hid hr1
            clear hp1 hr1
            go_region_held3 (fun w' => w'.cell? ⟨wr.heap.size, 1, none⟩ = some (.string ⟨x.u.toArray⟩) ∧ w'.cell? ⟨wr.heap.size, 2, none⟩ = some (.string ⟨x.d.toArray⟩) ∧ w'.cell? ⟨wr.heap.size, 3, none⟩ = some (.string ⟨x.p.toArray⟩) ∧ w'.cell? ⟨wr.heap.size, 4, none⟩ = some (.int .i64 x.now))
              (first
                | exact HCE.out [] _ ((((Kept.refl [] w0).drew.step k4 (by simp)).step k5 (by simp)).step k6 (by simp)) (by simp)
                | exact HCE.out [] _ (((Kept.refl [] w0).drew.step k4 (by simp)).step k5 (by simp)) (by simp)
                | exact HCE.out [] _ ((Kept.refl [] w0).drew.step k4 (by simp)) (by simp)
                | exact HCE.out [] _ ((Kept.refl [] w0).drew) (by simp))
              (first
                | (go_at_call 20; refine (sameK_any (s4.keptN k5) s5).mono ?_; rintro e w6 ⟨rfl, k6⟩)
                | (go_at_call 22; refine (HR1.out _ (HBD.out.keptN k4)).mono ?_; rintro e w5 ⟨a5, c5, rfl, s5, k5⟩)
                | (go_at_call 21; refine HP1.out.mono ?_; rintro e w4 ⟨a4, c4, rfl, s4, k4⟩))
            go_wp2_with fail
            go_roundw
            case rel => exact ⟨k + 1, U, a', cap', X, by omega, by go_num, ((HBD.out.keptN k4).keptN k5).keptN k6, (((HKW.out.step HK0.out.drew (by simp)).step k4 (by simp)).step k5 (by simp)).step k6 (by simp), HFP.out⟩
            case measure => simp [intOf]; omega
          · have hq1 : (x.kind == 1) = false := by rw [beq_eq_false_iff_ne]; exact x1
            clear x1
            by_cases x2 : x.kind = 2
            · have hq2 : (x.kind == 2) = true := by rw [beq_iff_eq]; exact x2
              clear x2
              go_wp2_with fail
              obtain ⟨w0, HW0⟩ : ∃ w0, Hid (w0 = wr.alloc (.cells #[.int .i64 x.kind, .string ⟨x.u.toArray⟩, .string ⟨x.d.toArray⟩, .string ⟨x.p.toArray⟩, .int .i64 x.now] 35 (0, 0))) := ⟨_, hid rfl⟩
              rw [← HW0.out] at HOB HK0 ⊢
              have HBD := hid (HH.out.keptN HK0.out.drew)
              have HCE := hid (fun (T : List Nat) wq (q : Kept T w0 wq) (hT : wr.heap.size ∉ T) => And.intro (show wq.cell? ⟨wr.heap.size, 1, none⟩ = some (.string ⟨x.u.toArray⟩) by rw [cell_at (q.at HOB.out hT)]; rfl) (And.intro (show wq.cell? ⟨wr.heap.size, 2, none⟩ = some (.string ⟨x.d.toArray⟩) by rw [cell_at (q.at HOB.out hT)]; rfl) (And.intro (show wq.cell? ⟨wr.heap.size, 3, none⟩ = some (.string ⟨x.p.toArray⟩) by rw [cell_at (q.at HOB.out hT)]; rfl) (show wq.cell? ⟨wr.heap.size, 4, none⟩ = some (.int .i64 x.now) by rw [cell_at (q.at HOB.out hT)]; rfl))))
              have HNE := hid (HH.out.fresh)
              obtain ⟨C, HC⟩ : ∃ C, Hid (C = knownB U x.u x.d) := ⟨_, hid rfl⟩
              have hp1 : Calls Try.prog 23 #[.pointer (some ⟨pb, 0, none⟩), .string ⟨x.u.toArray⟩, .string ⟨x.d.toArray⟩] w0.drew fun e w' => e = .returned (.bool (knownB U x.u x.d)) ∧ w0.drew = w' := known_any HBD.out.prog ⟨x.u.toArray⟩ ⟨x.d.toArray⟩ HS.out.u
              have hr1 : Calls Try.prog 24 #[.pointer (some ⟨qb, 0, none⟩), .string ⟨x.u.toArray⟩, .string ⟨x.d.toArray⟩] w0.drew fun e w' => e = .returned (.bool (knownB U x.u x.d)) ∧ w0.drew = w' := rknown_any HBD.out.raw HBD.out.like HBD.out.prog.uniq HBD.out.prog.len ⟨x.u.toArray⟩ ⟨x.d.toArray⟩
              rw [← HC.out] at hp1 hr1
              have HP1 := hid hp1
              have HR1 := hid hr1
              clear hp1 hr1
              go_region_held3 (fun w' => w'.cell? ⟨wr.heap.size, 1, none⟩ = some (.string ⟨x.u.toArray⟩) ∧ w'.cell? ⟨wr.heap.size, 2, none⟩ = some (.string ⟨x.d.toArray⟩) ∧ w'.cell? ⟨wr.heap.size, 3, none⟩ = some (.string ⟨x.p.toArray⟩) ∧ w'.cell? ⟨wr.heap.size, 4, none⟩ = some (.int .i64 x.now))
                (first
                  | exact HCE.out [] _ ((Kept.refl [] w0).drew) (by simp))
                (first
                  | (go_at_call 24; refine HR1.out.mono ?_; rintro e w5 ⟨rfl, rfl⟩)
                  | (go_at_call 23; refine HP1.out.mono ?_; rintro e w4 ⟨rfl, rfl⟩))
              go_wp2_with fail
              go_roundw
              case rel => exact ⟨k + 1, U, a', cap', X, by omega, by go_num, HBD.out, HKW.out.step HK0.out.drew (by simp), HFP.out⟩
              case measure => simp [intOf]; omega
            · have hq2 : (x.kind == 2) = false := by rw [beq_eq_false_iff_ne]; exact x2
              clear x2
              by_cases x3 : x.kind = 3
              · have hq3 : (x.kind == 3) = true := by rw [beq_iff_eq]; exact x3
                clear x3
                go_wp2_with fail
                obtain ⟨w0, HW0⟩ : ∃ w0, Hid (w0 = wr.alloc (.cells #[.int .i64 x.kind, .string ⟨x.u.toArray⟩, .string ⟨x.d.toArray⟩, .string ⟨x.p.toArray⟩, .int .i64 x.now] 35 (0, 0))) := ⟨_, hid rfl⟩
                rw [← HW0.out] at HOB HK0 ⊢
                have HBD := hid (HH.out.keptN HK0.out.drew)
                have HCE := hid (fun (T : List Nat) wq (q : Kept T w0 wq) (hT : wr.heap.size ∉ T) => And.intro (show wq.cell? ⟨wr.heap.size, 1, none⟩ = some (.string ⟨x.u.toArray⟩) by rw [cell_at (q.at HOB.out hT)]; rfl) (And.intro (show wq.cell? ⟨wr.heap.size, 2, none⟩ = some (.string ⟨x.d.toArray⟩) by rw [cell_at (q.at HOB.out hT)]; rfl) (And.intro (show wq.cell? ⟨wr.heap.size, 3, none⟩ = some (.string ⟨x.p.toArray⟩) by rw [cell_at (q.at HOB.out hT)]; rfl) (show wq.cell? ⟨wr.heap.size, 4, none⟩ = some (.int .i64 x.now) by rw [cell_at (q.at HOB.out hT)]; rfl))))
                have HNE := hid (HH.out.fresh)
                obtain ⟨C, HC⟩ : ∃ C, Hid (C = (alook U x.u).isSome) := ⟨_, hid rfl⟩
                have hp1 : Calls Try.prog 25 #[.pointer (some ⟨pb, 0, none⟩), .string ⟨x.u.toArray⟩] w0.drew fun e w' => e = .returned (.bool (alook U x.u).isSome) ∧ ProfsAt w' pb mb (adel U x.u) ∧ Kept [mb] w0.drew w' := drop_any HBD.out.prog ⟨x.u.toArray⟩ HS.out.u
                have hr1 : ∀ w4, RefR w4 qb a' cap' X → Like w4 X U → Calls Try.prog 26 #[.pointer (some ⟨qb, 0, none⟩), .string ⟨x.u.toArray⟩] w4 fun e w' => e = .returned (.bool (alook U x.u).isSome) ∧ RefOut w4 w' qb a' (adel U x.u) := fun w4 r l => rdrop_any r l HBD.out.prog.uniq HBD.out.prog.len ⟨x.u.toArray⟩
                rw [← HC.out] at hp1 hr1
                have HP1 := hid hp1
                have HR1 := hid hr1
                clear hp1 hr1
                go_region_held3 (fun w' => w'.cell? ⟨wr.heap.size, 1, none⟩ = some (.string ⟨x.u.toArray⟩) ∧ w'.cell? ⟨wr.heap.size, 2, none⟩ = some (.string ⟨x.d.toArray⟩) ∧ w'.cell? ⟨wr.heap.size, 3, none⟩ = some (.string ⟨x.p.toArray⟩) ∧ w'.cell? ⟨wr.heap.size, 4, none⟩ = some (.int .i64 x.now))
                  (first
                    | exact HCE.out (mb :: qb :: fp a') _ ((((Kept.refl [] w0).drew.mono (T := mb :: qb :: fp a') (by simp)).trans k4 (by simp)).trans k9 (fun i hi => .inl (List.mem_cons_of_mem _ hi))) HNE.out
                    | exact HCE.out [mb] _ (((Kept.refl [] w0).drew.mono (T := [mb]) (by simp)).step k4 (by simp)) (fun hm => HNE.out (List.mem_cons.2 (.inl (by simpa using hm))))
                    | exact HCE.out [] _ ((Kept.refl [] w0).drew) (by simp))
                  (first
                    | (go_at_call 26; refine (HR1.out _ r4 l4).mono ?_; rintro e w5 ⟨rfl, o5⟩; obtain ⟨a9, c9, X9, hbo9, k9, n9⟩ := HBD.out.step2 k4 p4 o5)
                    | (go_at_call 25; refine HP1.out.mono ?_; rintro e w4 ⟨rfl, p4, k4⟩; obtain ⟨r4, l4⟩ := HBD.out.step1 k4))
                go_wp2_with fail
                go_roundw
                case rel =>
                  have hk4 : Kept [] w w4 := (HKW.out.step HK0.out.drew (by simp)).trans k4 (fun i hi => .inr (by simp at hi; rw [hi]; exact HB1.out))
                  refine ⟨k + 1, adel U x.u, a9, c9, X9, by omega, by go_num, hbo9, hk4.trans k9 (fun i hi => .inr ?_), fun i hi => ?_⟩
                  · rcases List.mem_cons.1 hi with e | e
                    · rw [e]; exact HQB.out
                    · exact HFP.out i e
                  · rcases n9 i hi with e | e
                    · exact HFP.out i e
                    · exact Nat.le_trans hk4.size e
                case measure => simp [intOf]; omega
              · have hq3 : (x.kind == 3) = false := by rw [beq_eq_false_iff_ne]; exact x3
                clear x3
                go_wp2_with fail
                go_roundw
                case rel => exact ⟨k + 1, U, a', cap', X, by omega, by go_num, HH.out.keptN HK0.out, HKW.out.step HK0.out (by simp), HFP.out⟩
                case measure => simp [intOf]; omega
      · go_wp2_with fail
        refine (alive_any _).mono ?_
        rintro e w5 ⟨rfl, k5⟩
        go_wp2_with fail
        go_ret
        exact ⟨rfl, (HKW.out.step k5 (by simp)).bel⟩
  · rw [Bool.not_eq_true] at t1
    rw [t1] at hbr
    go_enter Try.func4, Try.ntmps4
    go_wp2_with fail
    refine hbr.out.mono ?_
    rintro e w' ⟨rfl, rfl⟩
    go_wp2_with fail
    refine (alive_any _).mono ?_
    rintro e w5 ⟨rfl, k5⟩
    go_wp2_with fail
    go_ret
    exact ⟨rfl, k5.bel⟩
end Go.Proofs.Ytbcbffmbpoffpaa
