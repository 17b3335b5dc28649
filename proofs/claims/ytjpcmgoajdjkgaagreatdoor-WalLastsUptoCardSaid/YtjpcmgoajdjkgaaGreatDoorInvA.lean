/- A log that is appended to: Append and Sync keep what stands on the disk (plain). -/
import Derived.Test.YtjpcmgoajdjkgaaGreatDoorInv
set_option linter.all false
namespace Go.Proofs.YtjpcmgoajdjkgaaGreatDoor
open Go.RowKit
open Wal (frameB fourB numB nextB crc fileB)

theorem LInv.same {most : Int} {D D' : DiskM} {G : LogM} {gs : List Grp} (h : LInv most D G gs) (hf : D'.files = D.files) : LInv most D' G gs :=
  ⟨h.log, hf.trans h.files, h.ne, h.le, h.full, h.clean, h.few, h.small⟩
theorem LInv.dirt {most : Int} {D : DiskM} {G : LogM} {gs : List Grp} (h : LInv most D G gs) : LInv most D { G with dirty := true } gs :=
  ⟨by rw [h.log], h.files, h.ne, h.le, h.full, by simp, h.few, h.small⟩

theorem set_last {init : List Grp} (hne : ∀ g ∈ init, g.1 ≠ []) (hs : (flat init).length < 1000000000) (g : Grp) (b : List UInt8) (s : Nat) :
    setFile (mkFiles 0 init ++ [mkFile (flat init).length g]) ⟨fileB LOG (((flat init).length : Nat) : Int), b, s⟩ = mkFiles 0 init ++ [⟨fileB LOG (((flat init).length : Nat) : Int), b, s⟩] := by
  rw [setFile_append, set_absent (others hne hs)]
  simp [setFile, mkFile]
theorem at_last {init : List Grp} (hne : ∀ g ∈ init, g.1 ≠ []) (hs : (flat init).length < 1000000000) (f : FileM) (hf : f.name = fileB LOG (((flat init).length : Nat) : Int)) :
    fileAt (mkFiles 0 init ++ [f]) (fileB LOG (((flat init).length : Nat) : Int)) = some f := by
  rw [fileAt_append _ _ _ (others hne hs), fileAt, if_pos hf]
theorem mkFiles_snoc (init : List Grp) (g : Grp) : mkFiles 0 (init ++ [g]) = mkFiles 0 init ++ [mkFile (flat init).length g] := by
  rw [mkFiles_append]; simp [mkFiles]
theorem mkParts_snoc (init : List Grp) (g : Grp) : mkParts 0 (init ++ [g]) = mkParts 0 init ++ [⟨((flat init).length : Nat), g.1.length, (frs g.1).length⟩] := by
  rw [mkParts_append]; simp [mkParts]
theorem snoc_cases {α : Type} (l : List α) : l = [] ∨ ∃ init x, l = init ++ [x] := by
  rcases List.eq_nil_or_concat l with h | ⟨i, x, h⟩
  · exact .inl h
  · exact .inr ⟨i, x, by rw [h, List.concat_eq_append]⟩
theorem snoc_inj {α : Type} {a b : List α} {x y : α} (h : a ++ [x] = b ++ [y]) : a = b ∧ x = y := by
  have := List.append_inj' h rfl
  exact ⟨this.1, by simpa using this.2⟩

theorem LInv.init_ne {most : Int} {D : DiskM} {G : LogM} {init : List Grp} {g : Grp} (h : LInv most D G (init ++ [g])) : (∀ x ∈ init, x.1 ≠ []) ∧ (flat init).length < 1000000000 ∧ 1 ≤ g.1.length ∧ (flat init).length + g.1.length ≤ 1048577 := by
  have h1 := h.few
  rw [flat_append, flat_one, List.length_append] at h1
  have h2 := List.length_pos_iff.2 (h.ne g (by simp))
  exact ⟨fun x hx => h.ne x (by simp [hx]), by omega, h2, h1⟩

theorem LInv.sync {most : Int} {D : DiskM} {G : LogM} {gs : List Grp} (h : LInv most D G gs) :
    ∃ gs', LInv most (LogM.sync D G).1 (LogM.sync D G).2.1 gs' ∧ flat gs' = flat gs ∧ (∀ m, Syn gs m → Syn gs' m) ∧ ((LogM.sync D G).2.2 = 0 → ∀ g ∈ gs', g.2 = (frs g.1).length) := by
  rcases snoc_cases gs with rfl | ⟨init, ⟨rs, s⟩, rfl⟩
  · have hp : G.parts = [] := by rw [h.log]; rfl
    have e : LogM.sync D G = (D, G, 0) := by unfold LogM.sync; rw [hp]; rfl
    rw [e]
    exact ⟨[], h, rfl, fun _ h => h, fun _ => by simp⟩
  · obtain ⟨hne, hlt, hg, _⟩ := h.init_ne
    have hp : G.parts.getLast? = some ⟨((flat init).length : Nat), rs.length, (frs rs).length⟩ := by rw [h.log]; simp only; rw [mkParts_snoc]; simp
    have hnm : G.name = LOG := by rw [h.log]
    unfold LogM.sync
    rw [hp]
    simp only
    by_cases hd : G.dirty = false
    · rw [if_pos hd]
      exact ⟨_, h, rfl, fun _ h => h, fun _ => h.clean hd⟩
    · rw [if_neg hd, hnm]
      rcases DiskM.sync_cases D (fileB LOG (((flat init).length : Nat) : Int)) with ⟨h1, h2⟩ | ⟨h1, f, h2, h3⟩
      · refine ⟨_, ?_, rfl, fun _ h => h, fun e => absurd e h1⟩
        have : decide ((D.sync (fileB LOG (((flat init).length : Nat) : Int))).2 ≠ 0) = true := by simpa using h1
        rw [this]
        have h9 := (h.same h2).dirt
        rw [hnm] at h9
        exact h9
      · have hd0 : decide ((D.sync (fileB LOG (((flat init).length : Nat) : Int))).2 ≠ 0) = false := by simpa using h1
        rw [hd0]
        rw [h.files, mkFiles_snoc, at_last hne hlt (mkFile (flat init).length (rs, s)) rfl] at h2
        injection h2 with h2
        subst h2
        have hfl : flat (init ++ [((rs, (frs rs).length) : Grp)]) = flat (init ++ [((rs, s) : Grp)]) := by rw [flat_append, flat_append, flat_one, flat_one]
        refine ⟨init ++ [(rs, (frs rs).length)], ⟨?_, ?_, ?_, ?_, ?_, ?_, by rw [hfl]; exact h.few, by rw [hfl]; exact h.small⟩, hfl, ?_, ?_⟩
        · rw [h.log, hfl]
          simp only
          rw [mkParts_snoc, mkParts_snoc]
        · rw [h3, h.files, mkFiles_snoc, mkFiles_snoc]
          exact set_last hne hlt (rs, s) _ _
        · intro g hg'
          rcases List.mem_append.1 hg' with h4 | h4
          · exact hne g h4
          · simp only [List.mem_singleton] at h4; subst h4; exact h.ne (rs, s) (by simp)
        · intro g hg'
          rcases List.mem_append.1 hg' with h4 | h4
          · exact h.le g (by simp [h4])
          · simp only [List.mem_singleton] at h4; subst h4; exact Nat.le_refl _
        · intro g hg'
          rw [List.dropLast_concat] at hg'
          exact h.full g (by rw [List.dropLast_concat]; exact hg')
        · intro _ g hg'
          rcases List.mem_append.1 hg' with h4 | h4
          · exact h.full g (by rw [List.dropLast_concat]; exact h4)
          · simp only [List.mem_singleton] at h4; subst h4; rfl
        · rintro m ⟨h4, h5⟩
          refine ⟨by rw [hfl]; exact h4, fun i r t e => ?_⟩
          obtain ⟨rfl, e2⟩ := snoc_inj e
          cases e2
          have := h5 init rs s rfl
          have h6 := h.le (rs, s) (by simp)
          exact Nat.le_trans this h6
        · intro _ g hg'
          rcases List.mem_append.1 hg' with h4 | h4
          · exact h.full g (by rw [List.dropLast_concat]; exact h4)
          · simp only [List.mem_singleton] at h4; subst h4; rfl

theorem Syn.grow {init : List Grp} {rs : List (List UInt8)} {s m : Nat} (b : List UInt8) (h : Syn (init ++ [(rs, s)]) m) : Syn (init ++ [(rs ++ [b], s)]) m := by
  obtain ⟨h1, h2⟩ := h
  rw [flat_append, flat_one, List.length_append] at h1
  refine ⟨by rw [flat_append, flat_one, List.length_append, List.length_append]; simp only at h1 ⊢; omega, fun i r t e => ?_⟩
  obtain ⟨rfl, e2⟩ := snoc_inj e
  cases e2
  have := h2 init rs s rfl
  rw [List.take_append_of_le_length (by simp only at h1; omega)]
  exact this
theorem Syn.next {gs : List Grp} {m : Nat} (b : List UInt8) (h : Syn gs m) : Syn (gs ++ [([b], 0)]) m := by
  refine ⟨by rw [flat_append, List.length_append]; have := h.1; omega, fun i r t e => ?_⟩
  obtain ⟨rfl, e2⟩ := snoc_inj e
  cases e2
  have := h.1
  rw [Nat.sub_eq_zero_of_le this]
  simp [frs]

theorem LInv.layNew {most : Int} {D : DiskM} {G : LogM} {gs : List Grp} (h : LInv most D G gs) (hall : ∀ g ∈ gs, g.2 = (frs g.1).length) (b : List UInt8) (hb : b.length ≤ 1000) (hf : (flat gs).length + 1 ≤ 1048577)
    (p : Option PartM) (hp : p.any (fun q => decide (G.fin = q.frm)) = false) :
    ∃ gs', LInv most (LogM.lay D G p ⟨G.fin, 0, 0⟩ b).1 (LogM.lay D G p ⟨G.fin, 0, 0⟩ b).2.1 gs' ∧ ((LogM.lay D G p ⟨G.fin, 0, 0⟩ b).2.2 = 0 → flat gs' = flat gs ++ [b]) ∧ ((LogM.lay D G p ⟨G.fin, 0, 0⟩ b).2.2 ≠ 0 → flat gs' = flat gs) ∧ ∀ m, Syn gs m → Syn gs' m := by
  have hfin : G.fin = ((flat gs).length : Nat) := by rw [h.log]; simp [LogM.fin]
  have hnm : G.name = LOG := by rw [h.log]
  unfold LogM.lay
  simp only [hnm, hfin]
  rw [hfin] at hp
  rcases DiskM.append_cases D (fileB LOG (((flat gs).length : Nat) : Int)) (frameB b) with ⟨h1, h2⟩ | ⟨h1, ⟨h2, h3⟩ | ⟨f, h2, h3⟩⟩
  · rw [if_pos h1]
    exact ⟨gs, h.same h2, fun e => absurd e h1, fun _ => rfl, fun _ h => h⟩
  · rw [if_neg (by simpa using h1), hp]
    have hfl : flat (gs ++ [(([b], 0) : Grp)]) = flat gs ++ [b] := by rw [flat_append, flat_one]
    refine ⟨gs ++ [([b], 0)], ⟨?_, ?_, ?_, ?_, ?_, by simp, by rw [hfl]; simp; omega, ?_⟩, fun _ => hfl, fun e => absurd rfl e, fun m hm => hm.next b⟩
    · rw [h.log]
      simp only [Bool.false_eq_true, if_false]
      rw [mkParts_snoc, hfl]
      simp [frs_one, Wal.frameB_length]
    · rw [h3, h.files, mkFiles_snoc]
      simp [mkFile, frs_one]
    · intro g hg
      rcases List.mem_append.1 hg with h4 | h4
      · exact h.ne g h4
      · simp only [List.mem_singleton] at h4; subst h4; simp
    · intro g hg
      rcases List.mem_append.1 hg with h4 | h4
      · exact h.le g h4
      · simp only [List.mem_singleton] at h4; subst h4; exact Nat.zero_le _
    · intro g hg
      rw [List.dropLast_concat] at hg
      exact hall g hg
    · intro x hx
      rw [hfl] at hx
      rcases List.mem_append.1 hx with h4 | h4
      · exact h.small x h4
      · simp only [List.mem_singleton] at h4; subst h4; exact hb
  · exfalso
    rw [h.files, fileAt_absent _ _ (others h.ne (by omega))] at h2
    cases h2

theorem LInv.layLast {most : Int} {D : DiskM} {G : LogM} {init : List Grp} {rs : List (List UInt8)} {s : Nat} (h : LInv most D G (init ++ [(rs, s)])) (b : List UInt8) (hb : b.length ≤ 1000) (hf : (flat (init ++ [((rs, s) : Grp)])).length + 1 ≤ 1048577) :
    ∃ gs', LInv most (LogM.lay D G (some ⟨((flat init).length : Nat), rs.length, (frs rs).length⟩) ⟨((flat init).length : Nat), rs.length, (frs rs).length⟩ b).1 (LogM.lay D G (some ⟨((flat init).length : Nat), rs.length, (frs rs).length⟩) ⟨((flat init).length : Nat), rs.length, (frs rs).length⟩ b).2.1 gs' ∧
      ((LogM.lay D G (some ⟨((flat init).length : Nat), rs.length, (frs rs).length⟩) ⟨((flat init).length : Nat), rs.length, (frs rs).length⟩ b).2.2 = 0 → flat gs' = flat (init ++ [(rs, s)]) ++ [b]) ∧
      ((LogM.lay D G (some ⟨((flat init).length : Nat), rs.length, (frs rs).length⟩) ⟨((flat init).length : Nat), rs.length, (frs rs).length⟩ b).2.2 ≠ 0 → flat gs' = flat (init ++ [(rs, s)])) ∧ ∀ m, Syn (init ++ [(rs, s)]) m → Syn gs' m := by
  obtain ⟨hne, hlt, hg, _⟩ := h.init_ne
  have hnm : G.name = LOG := by rw [h.log]
  have hnf : G.parts.dropLast = mkParts 0 init := by rw [h.log]; simp only; rw [mkParts_snoc, List.dropLast_concat]
  unfold LogM.lay
  simp only [hnm]
  rcases DiskM.append_cases D (fileB LOG (((flat init).length : Nat) : Int)) (frameB b) with ⟨h1, h2⟩ | ⟨h1, ⟨h2, h3⟩ | ⟨f, h2, h3⟩⟩
  · rw [if_pos h1]
    exact ⟨_, h.same h2, fun e => absurd e h1, fun _ => rfl, fun _ h => h⟩
  · exfalso
    rw [h.files, mkFiles_snoc, at_last hne hlt (mkFile (flat init).length (rs, s)) rfl] at h2
    cases h2
  · rw [if_neg (by simpa using h1)]
    rw [h.files, mkFiles_snoc, at_last hne hlt (mkFile (flat init).length (rs, s)) rfl] at h2
    injection h2 with h2
    subst h2
    have hfl : flat (init ++ [((rs ++ [b], s) : Grp)]) = flat (init ++ [((rs, s) : Grp)]) ++ [b] := by rw [flat_append, flat_append, flat_one, flat_one]; simp
    refine ⟨init ++ [(rs ++ [b], s)], ⟨?_, ?_, ?_, ?_, ?_, by simp, by rw [hfl]; simp only [List.length_append, List.length_singleton] at hf ⊢; omega, ?_⟩, fun _ => hfl, fun e => absurd rfl e, fun m hm => hm.grow b⟩
    · simp only [Option.any_some, decide_true, if_true, hnf]
      rw [h.log]
      simp only
      rw [mkParts_snoc, hfl]
      simp [frs_append, frs_one, Wal.frameB_length]
    · rw [h3, h.files, mkFiles_snoc, mkFiles_snoc]
      have := set_last hne hlt (rs, s) (frs rs ++ frameB b) s
      rw [show mkFile (flat init).length ((rs ++ [b], s) : Grp) = ⟨fileB LOG (((flat init).length : Nat) : Int), frs rs ++ frameB b, s⟩ by simp [mkFile, frs_append, frs_one]]
      exact this
    · intro g hg'
      rcases List.mem_append.1 hg' with h4 | h4
      · exact hne g h4
      · simp only [List.mem_singleton] at h4; subst h4; simp
    · intro g hg'
      rcases List.mem_append.1 hg' with h4 | h4
      · exact h.le g (by simp [h4])
      · simp only [List.mem_singleton] at h4; subst h4
        have := h.le (rs, s) (by simp)
        simp only [frs_append, List.length_append] at this ⊢
        omega
    · intro g hg'
      rw [List.dropLast_concat] at hg'
      exact h.full g (by rw [List.dropLast_concat]; exact hg')
    · intro x hx
      rw [hfl] at hx
      rcases List.mem_append.1 hx with h4 | h4
      · exact h.small x h4
      · simp only [List.mem_singleton] at h4; subst h4; exact hb

theorem LInv.append {most : Int} {D : DiskM} {G : LogM} {gs : List Grp} (h : LInv most D G gs) (b : List UInt8) (hb : b.length ≤ 1000) (hf : (flat gs).length + 1 ≤ 1048577) :
    ∃ gs', LInv most (LogM.append D G b).1 (LogM.append D G b).2.1 gs' ∧ ((LogM.append D G b).2.2 = 0 → flat gs' = flat gs ++ [b]) ∧ ((LogM.append D G b).2.2 ≠ 0 → flat gs' = flat gs) ∧ ∀ m, Syn gs m → Syn gs' m := by
  unfold LogM.append
  rw [if_neg (by omega)]
  rcases snoc_cases gs with rfl | ⟨init, ⟨rs, s⟩, rfl⟩
  · have hp : G.parts.getLast? = none := by rw [h.log]; rfl
    rw [hp]
    exact h.layNew (by simp) b hb hf none rfl
  · obtain ⟨hne, hlt, hg, _⟩ := h.init_ne
    have hp : G.parts.getLast? = some ⟨((flat init).length : Nat), rs.length, (frs rs).length⟩ := by rw [h.log]; simp only; rw [mkParts_snoc]; simp
    rw [hp]
    simp only
    by_cases hs : (((frs rs).length : Nat) : Int) < G.most
    · rw [if_pos hs]
      exact h.layLast b hb hf
    · rw [if_neg hs]
      obtain ⟨gs', h1, h2, h3, h4⟩ := h.sync
      have hG : (LogM.sync D G).2.1.fin = G.fin := by rw [h1.log]; simp only [LogM.fin]; rw [h2, h.log]
      by_cases he : (LogM.sync D G).2.2 ≠ 0
      · rw [if_pos he]
        exact ⟨gs', h1, fun e => absurd e he, fun _ => h2, h3⟩
      · rw [if_neg he]
        have hfin : G.fin = ((flat (init ++ [((rs, s) : Grp)])).length : Nat) := by rw [h.log]; simp [LogM.fin]
        have := h1.layNew (h4 (by simpa using he)) b hb (by rw [h2]; exact hf) (some ⟨((flat init).length : Nat), rs.length, (frs rs).length⟩) (by
          rw [hG, hfin]
          simp only [Option.any_some, decide_eq_false_iff_not]
          rw [flat_append, flat_one, List.length_append]
          have hg' : 1 ≤ rs.length := hg
          simp only
          omega)
        rw [hG] at this
        obtain ⟨gs2, k1, k2, k3, k4⟩ := this
        exact ⟨gs2, k1, fun e => by rw [k2 e, h2], fun e => by rw [k3 e, h2], fun m hm => k4 m (h3 m hm)⟩
end Go.Proofs.YtjpcmgoajdjkgaaGreatDoor
