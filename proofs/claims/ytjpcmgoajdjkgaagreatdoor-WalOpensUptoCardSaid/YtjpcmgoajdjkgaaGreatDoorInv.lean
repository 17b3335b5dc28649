/- A log that is appended to: what stands on the disk (plain). A log that is appended to: Append and Sync keep what stands on the disk (plain). A log that is opened again: its files are loaded, one behind the other (plain). A log behind a crash: what Boot leaves is opened, and has all that was safe (plain). One byte that is another one in a log that is synced is told (plain). A spoilt byte: what Spoil does, and that Open tells it (plain). -/
import Derived.Test.YtjpcmgoajdjkgaaGreatDoorAlP
import Derived.Lib.AtoiTie
set_option linter.all false
namespace Go.Proofs.YtjpcmgoajdjkgaaGreatDoor
open Go.RowKit
open Wal (frameB fourB numB nextB crc fileB)

theorem decFrom_append (a b : List UInt8) : ∀ acc, Go.Lib.decFrom acc (a ++ b) = (Go.Lib.decFrom acc a).bind fun m => Go.Lib.decFrom m b := by
  induction a with
  | nil => intro acc; simp [Go.Lib.decFrom]
  | cons x r ih =>
    intro acc
    simp only [List.cons_append, Go.Lib.decFrom]
    cases Go.Lib.digitVal x with
    | none => rfl
    | some d => exact ih _
theorem digitVal_of (n : Nat) (h : n < 10) : Go.Lib.digitVal (UInt8.ofNat (48 + n)) = some n := by
  unfold Go.Lib.digitVal
  have e : (UInt8.ofNat (48 + n)).toNat = 48 + n := by rw [UInt8.toNat_ofNat']; omega
  rw [e, if_pos (by omega)]
  congr 1
  omega
theorem decFrom_digits (n : Nat) : Go.Lib.decFrom 0 (Go.Lib.decDigits n) = some n := by
  induction n using Nat.strongRecOn with
  | _ n ih =>
  rw [Go.Lib.decDigits]
  split
  · rename_i h
    simp only [Go.Lib.decFrom, digitVal_of n h]
    congr 1
    omega
  · rename_i h
    rw [decFrom_append, ih (n / 10) (by omega)]
    simp only [Option.bind_some, Go.Lib.decFrom, digitVal_of (n % 10) (by omega)]
    congr 1
    omega
theorem digits_ne (n : Nat) : Go.Lib.decDigits n ≠ [] := by
  rw [Go.Lib.decDigits]
  split <;> simp
theorem digits_first (n : Nat) : ∀ c ∈ Go.Lib.decDigits n, 48 ≤ c.toNat ∧ c.toNat ≤ 57 := by
  induction n using Nat.strongRecOn with
  | _ n ih =>
  intro c hc
  rw [Go.Lib.decDigits] at hc
  split at hc
  · rename_i h
    simp only [List.mem_singleton] at hc
    subst hc
    rw [UInt8.toNat_ofNat']; omega
  · rename_i h
    rcases List.mem_append.1 hc with hc | hc
    · exact ih (n / 10) (by omega) c hc
    · simp only [List.mem_singleton] at hc
      subst hc
      rw [UInt8.toNat_ofNat']; omega
theorem atoi_digits (n : Nat) (h : n < 1000000000) : Go.Lib.atoiAll (Go.Lib.decDigits n) = .ok (n : Int) := by
  have hl := digits_length n 8 (by omega)
  rw [Go.Lib.atoiAll_short _ (by omega)]
  have hd := decFrom_digits n
  have hf := digits_first n
  have hne := digits_ne n
  generalize Go.Lib.decDigits n = l at *
  match l, hne with
  | c :: r, _ =>
    have hc := hf c (by simp)
    have h45 : c ≠ 45 := by rintro rfl; revert hc; decide
    have h43 : c ≠ 43 := by rintro rfl; revert hc; decide
    simp [Go.Lib.atoi, h45, h43, Go.Lib.decNat, hd, Go.Lib.NumEnd.ofOption]

theorem file_eq (j : Nat) (h : j < 1000000000) : fileB LOG (j : Int) = LOG ++ [46] ++ Go.Lib.decDigits j := by
  unfold fileB
  rw [if_neg (by omega)]
  rfl
theorem numOf_file (j : Nat) (h : j < 1000000000) : numOf LOG (fileB LOG (j : Int)) = some (j : Int) := by
  have hl := digits_length j 8 (by omega)
  unfold numOf
  have e1 : (LOG ++ [46]).isPrefixOf (fileB LOG (j : Int)) = true := by
    rw [file_eq j h, List.isPrefixOf_iff_prefix]
    exact List.prefix_append _ _
  have e2 : (fileB LOG (j : Int)).drop (LOG.length + 1) = Go.Lib.decDigits j := by
    rw [file_eq j h]
    exact drp (by rfl)
  rw [if_pos e1, e2, if_neg (by omega), atoi_digits j h]
  simp
theorem file_inj {i j : Nat} (hi : i < 1000000000) (hj : j < 1000000000) (h : fileB LOG (i : Int) = fileB LOG (j : Int)) : i = j := by
  have h1 := numOf_file i hi
  rw [h, numOf_file j hj] at h1
  injection h1 with h1
  omega
theorem dn_file (j : Nat) (h : j < 1000000000) : dnameB (fileB LOG (j : Int)) = true := by
  have hl := digits_length j 8 (by omega)
  have hf := digits_first j
  rw [file_eq j h]
  unfold dnameB
  have e1 : ((LOG ++ [46] ++ Go.Lib.decDigits j).any fun b => oddD b.toNat) = false := by
    rw [List.any_append]
    have : ((Go.Lib.decDigits j).any fun b => oddD b.toNat) = false := by
      rw [List.any_eq_false]
      intro c hc
      have := hf c hc
      unfold oddD
      simp
      omega
    rw [this]
    decide
  rw [e1]
  simp [LOG]
  omega

/-- frames, one behind the other -/
def frs (l : List (List UInt8)) : List UInt8 := l.flatMap frameB
theorem frs_append (a b : List (List UInt8)) : frs (a ++ b) = frs a ++ frs b := by simp [frs]
theorem frs_one (b : List UInt8) : frs [b] = frameB b := by simp [frs]
/-- the records of a file, how many of its bytes are safe -/
abbrev Grp := List (List UInt8) × Nat
def flat (gs : List Grp) : List (List UInt8) := gs.flatMap (·.1)
theorem flat_append (a b : List Grp) : flat (a ++ b) = flat a ++ flat b := by simp [flat]
theorem flat_one (g : Grp) : flat [g] = g.1 := by simp [flat]
def mkParts : Nat → List Grp → List PartM
  | _, [] => []
  | k, g :: r => ⟨(k : Int), g.1.length, (frs g.1).length⟩ :: mkParts (k + g.1.length) r
def mkFile (k : Nat) (g : Grp) : FileM := ⟨fileB LOG (k : Int), frs g.1, g.2⟩
def mkFiles : Nat → List Grp → List FileM
  | _, [] => []
  | k, g :: r => mkFile k g :: mkFiles (k + g.1.length) r
theorem mkParts_append (b : List Grp) : ∀ (k : Nat) (a : List Grp), mkParts k (a ++ b) = mkParts k a ++ mkParts (k + (flat a).length) b
  | k, [] => by simp [mkParts, flat]
  | k, g :: r => by
    simp only [List.cons_append, mkParts, mkParts_append b (k + g.1.length) r, flat, List.flatMap_cons, List.length_append]
    rw [Nat.add_assoc]
theorem mkFiles_append (b : List Grp) : ∀ (k : Nat) (a : List Grp), mkFiles k (a ++ b) = mkFiles k a ++ mkFiles (k + (flat a).length) b
  | k, [] => by simp [mkFiles, flat]
  | k, g :: r => by
    simp only [List.cons_append, mkFiles, mkFiles_append b (k + g.1.length) r, flat, List.flatMap_cons, List.length_append]
    rw [Nat.add_assoc]
/-- the numbers of the files -/
def ks : Nat → List Grp → List Nat
  | _, [] => []
  | k, g :: r => k :: ks (k + g.1.length) r
theorem ks_append (b : List Grp) : ∀ (k : Nat) (a : List Grp), ks k (a ++ b) = ks k a ++ ks (k + (flat a).length) b
  | k, [] => by simp [ks, flat]
  | k, g :: r => by
    simp only [List.cons_append, ks, ks_append b (k + g.1.length) r, flat, List.flatMap_cons, List.length_append]
    rw [Nat.add_assoc]
theorem ks_range : ∀ (k : Nat) (gs : List Grp), (∀ g ∈ gs, g.1 ≠ []) → ∀ j ∈ ks k gs, k ≤ j ∧ j < k + (flat gs).length
  | _, [], _, j, h => by simp [ks] at h
  | k, g :: r, hne, j, h => by
    have hg : 0 < g.1.length := List.length_pos_iff.2 (hne g (by simp))
    simp only [ks, List.mem_cons] at h
    simp only [flat, List.flatMap_cons, List.length_append]
    rcases h with rfl | h
    · omega
    · have := ks_range (k + g.1.length) r (fun x hx => hne x (by simp [hx])) j h
      simp only [flat] at this
      omega
theorem ks_sorted : ∀ (k : Nat) (gs : List Grp), (∀ g ∈ gs, g.1 ≠ []) → (ks k gs).Pairwise (· < ·)
  | _, [], _ => by simp [ks]
  | k, g :: r, hne => by
    have hg : 0 < g.1.length := List.length_pos_iff.2 (hne g (by simp))
    rw [ks, List.pairwise_cons]
    refine ⟨fun j hj => ?_, ks_sorted _ r (fun x hx => hne x (by simp [hx]))⟩
    have := ks_range (k + g.1.length) r (fun x hx => hne x (by simp [hx])) j hj
    omega
theorem mkFiles_names : ∀ (k : Nat) (gs : List Grp), (mkFiles k gs).map (·.name) = (ks k gs).map fun (j : Nat) => fileB LOG (j : Int)
  | _, [] => rfl
  | k, g :: r => by simp only [mkFiles, ks, List.map_cons, mkFiles_names (k + g.1.length) r, mkFile]
theorem mkFiles_mem : ∀ (k : Nat) (gs : List Grp) (f : FileM), f ∈ mkFiles k gs → ∃ j ∈ ks k gs, f.name = fileB LOG (j : Int) := by
  intro k gs f hf
  have : f.name ∈ (mkFiles k gs).map (·.name) := List.mem_map.2 ⟨f, hf, rfl⟩
  rw [mkFiles_names] at this
  obtain ⟨j, hj, e⟩ := List.mem_map.1 this
  exact ⟨j, hj, e.symm⟩

theorem fileAt_append (a b : List FileM) (s : List UInt8) (h : ∀ f ∈ a, f.name ≠ s) : fileAt (a ++ b) s = fileAt b s := by
  induction a with
  | nil => rfl
  | cons f r ih =>
    rw [List.cons_append, fileAt, if_neg (h f (by simp))]
    exact ih fun g hg => h g (by simp [hg])
theorem fileAt_absent (a : List FileM) (s : List UInt8) (h : ∀ f ∈ a, f.name ≠ s) : fileAt a s = none := by
  have := fileAt_append a [] s h
  rw [List.append_nil] at this
  rw [this]; rfl
theorem setFile_append (a b : List FileM) (f' : FileM) : setFile (a ++ b) f' = setFile a f' ++ setFile b f' := by simp [setFile]

/-- the names of files in front of number k are others -/
theorem others {gs : List Grp} (hne : ∀ g ∈ gs, g.1 ≠ []) (hs : (flat gs).length < 1000000000) : ∀ f ∈ mkFiles 0 gs, f.name ≠ fileB LOG (((flat gs).length : Nat) : Int) := by
  intro f hf e
  obtain ⟨j, hj, hn⟩ := mkFiles_mem 0 gs f hf
  have := ks_range 0 gs hne j hj
  have := file_inj (by omega) hs (hn.symm.trans e)
  omega

/-- the log G stands on the disk D: the files' groups gs, the last one's bytes may be more than what is safe -/
structure LInv (most : Int) (D : DiskM) (G : LogM) (gs : List Grp) : Prop where
  log : G = { name := LOG, most := most, parts := mkParts 0 gs, recs := flat gs, first := 0, dirty := G.dirty }
  files : D.files = mkFiles 0 gs
  ne : ∀ g ∈ gs, g.1 ≠ []
  le : ∀ g ∈ gs, g.2 ≤ (frs g.1).length
  full : ∀ g ∈ gs.dropLast, g.2 = (frs g.1).length
  clean : G.dirty = false → ∀ g ∈ gs, g.2 = (frs g.1).length
  few : (flat gs).length ≤ 1048577
  small : ∀ b ∈ flat gs, b.length ≤ 1000

/-- the first m records are safe -/
def Syn (gs : List Grp) (m : Nat) : Prop := m ≤ (flat gs).length ∧ ∀ init rs s, gs = init ++ [(rs, s)] → (frs (rs.take (m - (flat init).length))).length ≤ s

theorem LInv.new (most : Int) (D : DiskM) (h : D.files = []) : LInv most D (LogM.new LOG most) [] :=
  ⟨rfl, h, by simp, by simp, by simp, by simp, by simp [flat], by simp [flat]⟩
theorem Syn.zero (gs : List Grp) : Syn gs 0 := ⟨Nat.zero_le _, fun _ _ _ _ => by simp [frs]⟩

theorem DiskM.append_cases (D : DiskM) (s b : List UInt8) : ((D.append s b).2 ≠ 0 ∧ (D.append s b).1.files = D.files) ∨
    ((D.append s b).2 = 0 ∧ (fileAt D.files s = none ∧ (D.append s b).1.files = D.files ++ [{ name := s, b := b, safe := 0 }] ∨
      ∃ f, fileAt D.files s = some f ∧ (D.append s b).1.files = setFile D.files { f with b := f.b ++ b })) := by
  have hk := (step_keeps D (dnameB s)).1
  unfold DiskM.append
  split
  · rename_i h; exact .inl ⟨h, hk⟩
  · cases hf : fileAt D.files s with
    | none =>
      simp only
      split
      · exact .inl ⟨by simp, hk⟩
      split
      · exact .inl ⟨by simp, hk⟩
      · exact .inr ⟨rfl, .inl ⟨trivial, rfl⟩⟩
    | some f =>
      simp only
      split
      · exact .inl ⟨by simp, hk⟩
      · exact .inr ⟨rfl, .inr ⟨f, rfl, rfl⟩⟩
theorem DiskM.sync_cases (D : DiskM) (s : List UInt8) : ((D.sync s).2 ≠ 0 ∧ (D.sync s).1.files = D.files) ∨
    ((D.sync s).2 = 0 ∧ ∃ f, fileAt D.files s = some f ∧ (D.sync s).1.files = setFile D.files { f with safe := f.b.length }) := by
  have hk := (step_keeps D (dnameB s)).1
  unfold DiskM.sync
  split
  · rename_i h; exact .inl ⟨h, hk⟩
  · cases hf : fileAt D.files s with
    | none => exact .inl ⟨by simp, hk⟩
    | some f => exact .inr ⟨rfl, f, rfl, rfl⟩
end Go.Proofs.YtjpcmgoajdjkgaaGreatDoor
set_option linter.all false
namespace Go.Proofs.YtjpcmgoajdjkgaaGreatDoor
open Go.RowKit
open Wal (frameB fourB numB nextB crc fileB)

theorem LInv.same {most : Int} {D D' : DiskM} {G : LogM} {gs : List Grp} (h : LInv most D G gs) (hf : D'.files = D.files) : LInv most D' G gs :=
  ⟨h.log, hf.trans h.files, h.ne, h.le, h.full, h.clean, h.few, h.small⟩
theorem LInv.dirt {most : Int} {D : DiskM} {G : LogM} {gs : List Grp} (h : LInv most D G gs) : LInv most D { G with dirty := true } gs :=
  ⟨by rw [h.log], h.files, h.ne, h.le, h.full, by simp, h.few, h.small⟩

theorem set_last {init : List Grp} (hne : ∀ g ∈ init, g.1 ≠ []) (hs : (flat init).length < 1000000000) (g : Grp) (b : List UInt8) (s : Nat) :
    setFile (mkFiles 0 init ++ [mkFile (flat init).length g]) ⟨fileB LOG (((flat init).length : Nat) : Int), b, s⟩ = mkFiles 0 init ++ [⟨fileB LOG (((flat init).length : Nat) : Int), b, s⟩] := by
  rw [setFile_append, set_absent (others hne hs)]
  simp [setFile, mkFile]
theorem at_last {init : List Grp} (hne : ∀ g ∈ init, g.1 ≠ []) (hs : (flat init).length < 1000000000) (f : FileM) (hf : f.name = fileB LOG (((flat init).length : Nat) : Int)) :
    fileAt (mkFiles 0 init ++ [f]) (fileB LOG (((flat init).length : Nat) : Int)) = some f := by
  rw [fileAt_append _ _ _ (others hne hs), fileAt, if_pos hf]
theorem mkFiles_snoc (init : List Grp) (g : Grp) : mkFiles 0 (init ++ [g]) = mkFiles 0 init ++ [mkFile (flat init).length g] := by
  rw [mkFiles_append]; simp [mkFiles]
theorem mkParts_snoc (init : List Grp) (g : Grp) : mkParts 0 (init ++ [g]) = mkParts 0 init ++ [⟨((flat init).length : Nat), g.1.length, (frs g.1).length⟩] := by
  rw [mkParts_append]; simp [mkParts]
theorem snoc_cases {α : Type} (l : List α) : l = [] ∨ ∃ init x, l = init ++ [x] := by
  rcases List.eq_nil_or_concat l with h | ⟨i, x, h⟩
  · exact .inl h
  · exact .inr ⟨i, x, by rw [h, List.concat_eq_append]⟩
theorem snoc_inj {α : Type} {a b : List α} {x y : α} (h : a ++ [x] = b ++ [y]) : a = b ∧ x = y := by
  have := List.append_inj' h rfl
  exact ⟨this.1, by simpa using this.2⟩

theorem LInv.init_ne {most : Int} {D : DiskM} {G : LogM} {init : List Grp} {g : Grp} (h : LInv most D G (init ++ [g])) : (∀ x ∈ init, x.1 ≠ []) ∧ (flat init).length < 1000000000 ∧ 1 ≤ g.1.length ∧ (flat init).length + g.1.length ≤ 1048577 := by
  have h1 := h.few
  rw [flat_append, flat_one, List.length_append] at h1
  have h2 := List.length_pos_iff.2 (h.ne g (by simp))
  exact ⟨fun x hx => h.ne x (by simp [hx]), by omega, h2, h1⟩

theorem LInv.sync {most : Int} {D : DiskM} {G : LogM} {gs : List Grp} (h : LInv most D G gs) :
    ∃ gs', LInv most (LogM.sync D G).1 (LogM.sync D G).2.1 gs' ∧ flat gs' = flat gs ∧ (∀ m, Syn gs m → Syn gs' m) ∧ ((LogM.sync D G).2.2 = 0 → ∀ g ∈ gs', g.2 = (frs g.1).length) := by
  rcases snoc_cases gs with rfl | ⟨init, ⟨rs, s⟩, rfl⟩
  · have hp : G.parts = [] := by rw [h.log]; rfl
    have e : LogM.sync D G = (D, G, 0) := by unfold LogM.sync; rw [hp]; rfl
    rw [e]
    exact ⟨[], h, rfl, fun _ h => h, fun _ => by simp⟩
  · obtain ⟨hne, hlt, hg, _⟩ := h.init_ne
    have hp : G.parts.getLast? = some ⟨((flat init).length : Nat), rs.length, (frs rs).length⟩ := by rw [h.log]; simp only; rw [mkParts_snoc]; simp
    have hnm : G.name = LOG := by rw [h.log]
    unfold LogM.sync
    rw [hp]
    simp only
    by_cases hd : G.dirty = false
    · rw [if_pos hd]
      exact ⟨_, h, rfl, fun _ h => h, fun _ => h.clean hd⟩
    · rw [if_neg hd, hnm]
      rcases DiskM.sync_cases D (fileB LOG (((flat init).length : Nat) : Int)) with ⟨h1, h2⟩ | ⟨h1, f, h2, h3⟩
      · refine ⟨_, ?_, rfl, fun _ h => h, fun e => absurd e h1⟩
        have : decide ((D.sync (fileB LOG (((flat init).length : Nat) : Int))).2 ≠ 0) = true := by simpa using h1
        rw [this]
        have h9 := (h.same h2).dirt
        rw [hnm] at h9
        exact h9
      · have hd0 : decide ((D.sync (fileB LOG (((flat init).length : Nat) : Int))).2 ≠ 0) = false := by simpa using h1
        rw [hd0]
        rw [h.files, mkFiles_snoc, at_last hne hlt (mkFile (flat init).length (rs, s)) rfl] at h2
        injection h2 with h2
        subst h2
        have hfl : flat (init ++ [((rs, (frs rs).length) : Grp)]) = flat (init ++ [((rs, s) : Grp)]) := by rw [flat_append, flat_append, flat_one, flat_one]
        refine ⟨init ++ [(rs, (frs rs).length)], ⟨?_, ?_, ?_, ?_, ?_, ?_, by rw [hfl]; exact h.few, by rw [hfl]; exact h.small⟩, hfl, ?_, ?_⟩
        · rw [h.log, hfl]
          simp only
          rw [mkParts_snoc, mkParts_snoc]
        · rw [h3, h.files, mkFiles_snoc, mkFiles_snoc]
          exact set_last hne hlt (rs, s) _ _
        · intro g hg'
          rcases List.mem_append.1 hg' with h4 | h4
          · exact hne g h4
          · simp only [List.mem_singleton] at h4; subst h4; exact h.ne (rs, s) (by simp)
        · intro g hg'
          rcases List.mem_append.1 hg' with h4 | h4
          · exact h.le g (by simp [h4])
          · simp only [List.mem_singleton] at h4; subst h4; exact Nat.le_refl _
        · intro g hg'
          rw [List.dropLast_concat] at hg'
          exact h.full g (by rw [List.dropLast_concat]; exact hg')
        · intro _ g hg'
          rcases List.mem_append.1 hg' with h4 | h4
          · exact h.full g (by rw [List.dropLast_concat]; exact h4)
          · simp only [List.mem_singleton] at h4; subst h4; rfl
        · rintro m ⟨h4, h5⟩
          refine ⟨by rw [hfl]; exact h4, fun i r t e => ?_⟩
          obtain ⟨rfl, e2⟩ := snoc_inj e
          cases e2
          have := h5 init rs s rfl
          have h6 := h.le (rs, s) (by simp)
          exact Nat.le_trans this h6
        · intro _ g hg'
          rcases List.mem_append.1 hg' with h4 | h4
          · exact h.full g (by rw [List.dropLast_concat]; exact h4)
          · simp only [List.mem_singleton] at h4; subst h4; rfl

theorem Syn.grow {init : List Grp} {rs : List (List UInt8)} {s m : Nat} (b : List UInt8) (h : Syn (init ++ [(rs, s)]) m) : Syn (init ++ [(rs ++ [b], s)]) m := by
  obtain ⟨h1, h2⟩ := h
  rw [flat_append, flat_one, List.length_append] at h1
  refine ⟨by rw [flat_append, flat_one, List.length_append, List.length_append]; simp only at h1 ⊢; omega, fun i r t e => ?_⟩
  obtain ⟨rfl, e2⟩ := snoc_inj e
  cases e2
  have := h2 init rs s rfl
  rw [List.take_append_of_le_length (by simp only at h1; omega)]
  exact this
theorem Syn.next {gs : List Grp} {m : Nat} (b : List UInt8) (h : Syn gs m) : Syn (gs ++ [([b], 0)]) m := by
  refine ⟨by rw [flat_append, List.length_append]; have := h.1; omega, fun i r t e => ?_⟩
  obtain ⟨rfl, e2⟩ := snoc_inj e
  cases e2
  have := h.1
  rw [Nat.sub_eq_zero_of_le this]
  simp [frs]

theorem LInv.layNew {most : Int} {D : DiskM} {G : LogM} {gs : List Grp} (h : LInv most D G gs) (hall : ∀ g ∈ gs, g.2 = (frs g.1).length) (b : List UInt8) (hb : b.length ≤ 1000) (hf : (flat gs).length + 1 ≤ 1048577)
    (p : Option PartM) (hp : p.any (fun q => decide (G.fin = q.frm)) = false) :
    ∃ gs', LInv most (LogM.lay D G p ⟨G.fin, 0, 0⟩ b).1 (LogM.lay D G p ⟨G.fin, 0, 0⟩ b).2.1 gs' ∧ ((LogM.lay D G p ⟨G.fin, 0, 0⟩ b).2.2 = 0 → flat gs' = flat gs ++ [b]) ∧ ((LogM.lay D G p ⟨G.fin, 0, 0⟩ b).2.2 ≠ 0 → flat gs' = flat gs) ∧ ∀ m, Syn gs m → Syn gs' m := by
  have hfin : G.fin = ((flat gs).length : Nat) := by rw [h.log]; simp [LogM.fin]
  have hnm : G.name = LOG := by rw [h.log]
  unfold LogM.lay
  simp only [hnm, hfin]
  rw [hfin] at hp
  rcases DiskM.append_cases D (fileB LOG (((flat gs).length : Nat) : Int)) (frameB b) with ⟨h1, h2⟩ | ⟨h1, ⟨h2, h3⟩ | ⟨f, h2, h3⟩⟩
  · rw [if_pos h1]
    exact ⟨gs, h.same h2, fun e => absurd e h1, fun _ => rfl, fun _ h => h⟩
  · rw [if_neg (by simpa using h1), hp]
    have hfl : flat (gs ++ [(([b], 0) : Grp)]) = flat gs ++ [b] := by rw [flat_append, flat_one]
    refine ⟨gs ++ [([b], 0)], ⟨?_, ?_, ?_, ?_, ?_, by simp, by rw [hfl]; simp; omega, ?_⟩, fun _ => hfl, fun e => absurd rfl e, fun m hm => hm.next b⟩
    · rw [h.log]
      simp only [Bool.false_eq_true, if_false]
      rw [mkParts_snoc, hfl]
      simp [frs_one, Wal.frameB_length]
    · rw [h3, h.files, mkFiles_snoc]
      simp [mkFile, frs_one]
    · intro g hg
      rcases List.mem_append.1 hg with h4 | h4
      · exact h.ne g h4
      · simp only [List.mem_singleton] at h4; subst h4; simp
    · intro g hg
      rcases List.mem_append.1 hg with h4 | h4
      · exact h.le g h4
      · simp only [List.mem_singleton] at h4; subst h4; exact Nat.zero_le _
    · intro g hg
      rw [List.dropLast_concat] at hg
      exact hall g hg
    · intro x hx
      rw [hfl] at hx
      rcases List.mem_append.1 hx with h4 | h4
      · exact h.small x h4
      · simp only [List.mem_singleton] at h4; subst h4; exact hb
  · exfalso
    rw [h.files, fileAt_absent _ _ (others h.ne (by omega))] at h2
    cases h2

theorem LInv.layLast {most : Int} {D : DiskM} {G : LogM} {init : List Grp} {rs : List (List UInt8)} {s : Nat} (h : LInv most D G (init ++ [(rs, s)])) (b : List UInt8) (hb : b.length ≤ 1000) (hf : (flat (init ++ [((rs, s) : Grp)])).length + 1 ≤ 1048577) :
    ∃ gs', LInv most (LogM.lay D G (some ⟨((flat init).length : Nat), rs.length, (frs rs).length⟩) ⟨((flat init).length : Nat), rs.length, (frs rs).length⟩ b).1 (LogM.lay D G (some ⟨((flat init).length : Nat), rs.length, (frs rs).length⟩) ⟨((flat init).length : Nat), rs.length, (frs rs).length⟩ b).2.1 gs' ∧
      ((LogM.lay D G (some ⟨((flat init).length : Nat), rs.length, (frs rs).length⟩) ⟨((flat init).length : Nat), rs.length, (frs rs).length⟩ b).2.2 = 0 → flat gs' = flat (init ++ [(rs, s)]) ++ [b]) ∧
      ((LogM.lay D G (some ⟨((flat init).length : Nat), rs.length, (frs rs).length⟩) ⟨((flat init).length : Nat), rs.length, (frs rs).length⟩ b).2.2 ≠ 0 → flat gs' = flat (init ++ [(rs, s)])) ∧ ∀ m, Syn (init ++ [(rs, s)]) m → Syn gs' m := by
  obtain ⟨hne, hlt, hg, _⟩ := h.init_ne
  have hnm : G.name = LOG := by rw [h.log]
  have hnf : G.parts.dropLast = mkParts 0 init := by rw [h.log]; simp only; rw [mkParts_snoc, List.dropLast_concat]
  unfold LogM.lay
  simp only [hnm]
  rcases DiskM.append_cases D (fileB LOG (((flat init).length : Nat) : Int)) (frameB b) with ⟨h1, h2⟩ | ⟨h1, ⟨h2, h3⟩ | ⟨f, h2, h3⟩⟩
  · rw [if_pos h1]
    exact ⟨_, h.same h2, fun e => absurd e h1, fun _ => rfl, fun _ h => h⟩
  · exfalso
    rw [h.files, mkFiles_snoc, at_last hne hlt (mkFile (flat init).length (rs, s)) rfl] at h2
    cases h2
  · rw [if_neg (by simpa using h1)]
    rw [h.files, mkFiles_snoc, at_last hne hlt (mkFile (flat init).length (rs, s)) rfl] at h2
    injection h2 with h2
    subst h2
    have hfl : flat (init ++ [((rs ++ [b], s) : Grp)]) = flat (init ++ [((rs, s) : Grp)]) ++ [b] := by rw [flat_append, flat_append, flat_one, flat_one]; simp
    refine ⟨init ++ [(rs ++ [b], s)], ⟨?_, ?_, ?_, ?_, ?_, by simp, by rw [hfl]; simp only [List.length_append, List.length_singleton] at hf ⊢; omega, ?_⟩, fun _ => hfl, fun e => absurd rfl e, fun m hm => hm.grow b⟩
    · simp only [Option.any_some, decide_true, if_true, hnf]
      rw [h.log]
      simp only
      rw [mkParts_snoc, hfl]
      simp [frs_append, frs_one, Wal.frameB_length]
    · rw [h3, h.files, mkFiles_snoc, mkFiles_snoc]
      have := set_last hne hlt (rs, s) (frs rs ++ frameB b) s
      rw [show mkFile (flat init).length ((rs ++ [b], s) : Grp) = ⟨fileB LOG (((flat init).length : Nat) : Int), frs rs ++ frameB b, s⟩ by simp [mkFile, frs_append, frs_one]]
      exact this
    · intro g hg'
      rcases List.mem_append.1 hg' with h4 | h4
      · exact hne g h4
      · simp only [List.mem_singleton] at h4; subst h4; simp
    · intro g hg'
      rcases List.mem_append.1 hg' with h4 | h4
      · exact h.le g (by simp [h4])
      · simp only [List.mem_singleton] at h4; subst h4
        have := h.le (rs, s) (by simp)
        simp only [frs_append, List.length_append] at this ⊢
        omega
    · intro g hg'
      rw [List.dropLast_concat] at hg'
      exact h.full g (by rw [List.dropLast_concat]; exact hg')
    · intro x hx
      rw [hfl] at hx
      rcases List.mem_append.1 hx with h4 | h4
      · exact h.small x h4
      · simp only [List.mem_singleton] at h4; subst h4; exact hb

theorem LInv.append {most : Int} {D : DiskM} {G : LogM} {gs : List Grp} (h : LInv most D G gs) (b : List UInt8) (hb : b.length ≤ 1000) (hf : (flat gs).length + 1 ≤ 1048577) :
    ∃ gs', LInv most (LogM.append D G b).1 (LogM.append D G b).2.1 gs' ∧ ((LogM.append D G b).2.2 = 0 → flat gs' = flat gs ++ [b]) ∧ ((LogM.append D G b).2.2 ≠ 0 → flat gs' = flat gs) ∧ ∀ m, Syn gs m → Syn gs' m := by
  unfold LogM.append
  rw [if_neg (by omega)]
  rcases snoc_cases gs with rfl | ⟨init, ⟨rs, s⟩, rfl⟩
  · have hp : G.parts.getLast? = none := by rw [h.log]; rfl
    rw [hp]
    exact h.layNew (by simp) b hb hf none rfl
  · obtain ⟨hne, hlt, hg, _⟩ := h.init_ne
    have hp : G.parts.getLast? = some ⟨((flat init).length : Nat), rs.length, (frs rs).length⟩ := by rw [h.log]; simp only; rw [mkParts_snoc]; simp
    rw [hp]
    simp only
    by_cases hs : (((frs rs).length : Nat) : Int) < G.most
    · rw [if_pos hs]
      exact h.layLast b hb hf
    · rw [if_neg hs]
      obtain ⟨gs', h1, h2, h3, h4⟩ := h.sync
      have hG : (LogM.sync D G).2.1.fin = G.fin := by rw [h1.log]; simp only [LogM.fin]; rw [h2, h.log]
      by_cases he : (LogM.sync D G).2.2 ≠ 0
      · rw [if_pos he]
        exact ⟨gs', h1, fun e => absurd e he, fun _ => h2, h3⟩
      · rw [if_neg he]
        have hfin : G.fin = ((flat (init ++ [((rs, s) : Grp)])).length : Nat) := by rw [h.log]; simp [LogM.fin]
        have := h1.layNew (h4 (by simpa using he)) b hb (by rw [h2]; exact hf) (some ⟨((flat init).length : Nat), rs.length, (frs rs).length⟩) (by
          rw [hG, hfin]
          simp only [Option.any_some, decide_eq_false_iff_not]
          rw [flat_append, flat_one, List.length_append]
          have hg' : 1 ≤ rs.length := hg
          simp only
          omega)
        rw [hG] at this
        obtain ⟨gs2, k1, k2, k3, k4⟩ := this
        exact ⟨gs2, k1, fun e => by rw [k2 e, h2], fun e => by rw [k3 e, h2], fun m hm => k4 m (h3 m hm)⟩
end Go.Proofs.YtjpcmgoajdjkgaaGreatDoor
set_option linter.all false
namespace Go.Proofs.YtjpcmgoajdjkgaaGreatDoor
open Go.RowKit
open Wal (frameB fourB numB nextB crc fileB)

def okF (b : List UInt8) : List UInt8 × Nat × Nat := (b, 12 + b.length, 0)
theorem frs_cons (b : List UInt8) (r : List (List UInt8)) : frs (b :: r) = frameB b ++ frs r := by simp [frs]
theorem frame_ne (b t : List UInt8) : frameB b ++ t ≠ [] := by
  intro e
  have := congrArg List.length e
  rw [List.length_append, Wal.frameB_length] at this
  simp at this

/-- frames, and behind them other bytes -/
theorem seqF_frs (t : List UInt8) : ∀ (rs : List (List UInt8)) (_ : ∀ b ∈ rs, b.length ≤ 65536) (f : Nat), seqF (rs.length + f) (frs rs ++ t) = rs.map okF ++ seqF f t
  | [], _, f => by simp [frs]
  | b :: r, h, f => by
    rw [frs_cons, List.append_assoc, List.length_cons, show r.length + 1 + f = (r.length + f) + 1 by omega, seqF_frame b (h b (by simp)) _ _, seqF_frs t r (fun x hx => h x (by simp [hx])) f]
    rfl
theorem frs_length_ge : ∀ (rs : List (List UInt8)), rs.length ≤ (frs rs).length
  | [] => by simp [frs]
  | b :: r => by
    rw [frs_cons, List.length_append, Wal.frameB_length, List.length_cons]
    have := frs_length_ge r
    omega
theorem frs_sum : ∀ (rs : List (List UInt8)), (frs rs).length = (rs.map fun b => 12 + b.length).sum
  | [] => rfl
  | b :: r => by rw [frs_cons, List.length_append, Wal.frameB_length, List.map_cons, List.sum_cons, frs_sum r]
theorem scan_ok (last : Bool) (t : List (List UInt8 × Nat × Nat)) : ∀ (rs : List (List UInt8)), scanS last (rs.map okF ++ t) = (scanS last t).map fun x => (rs ++ x.1, (frs rs).length + x.2)
  | [] => by
    simp only [List.map_nil, List.nil_append, frs, List.flatMap_nil, List.length_nil, Nat.zero_add]
    cases scanS last t <;> rfl
  | b :: r => by
    simp only [List.map_cons, List.cons_append, okF, scanS, if_true]
    have := scan_ok last t r
    rw [this, frs_cons, List.length_append, Wal.frameB_length]
    cases scanS last t with
    | none => rfl
    | some x => simp only [Option.map_some]; congr 2; omega
/-- the scan of a whole file -/
theorem scan_full (last : Bool) (rs : List (List UInt8)) (h : ∀ b ∈ rs, b.length ≤ 65536) : scanS last (seqF ((frs rs).length + 1) (frs rs)) = some (rs, (frs rs).length) := by
  have := seqF_frs [] rs h ((frs rs).length + 1 - rs.length)
  rw [List.append_nil, show rs.length + ((frs rs).length + 1 - rs.length) = (frs rs).length + 1 by have := frs_length_ge rs; omega, seqF_nil, List.append_nil] at this
  rw [this]
  have h2 := scan_ok last [] rs
  rw [List.append_nil] at h2
  rw [h2]
  simp [scanS]

/-- a part of a frame is the end -/
theorem nextB_part (b : List UInt8) (h : b.length ≤ 65536) (i : Nat) (hi : i < 12 + b.length) : nextB ((frameB b).take i) = (none, 0, 10) := by
  have hl : ((frameB b).take i).length = i := by rw [List.length_take, Wal.frameB_length]; omega
  unfold nextB
  rw [hl]
  by_cases h12 : i < 12
  · rw [if_pos h12]
  · rw [if_neg h12]
    have hm : b.length % 4294967296 = b.length := by omega
    have e4 : ((frameB b).take i).take 4 = fourB b.length := by
      rw [List.take_take, Nat.min_eq_left (by omega)]
      unfold frameB; rw [hm, List.append_assoc, List.append_assoc]
      exact tke rfl
    have e8 : (((frameB b).take i).drop 4).take 4 = fourB (crc (fourB b.length)) := by
      rw [List.drop_take, List.take_take, Nat.min_eq_left (by omega)]
      unfold frameB; rw [hm, List.append_assoc, List.append_assoc, drp (n := 4) (A := fourB b.length) rfl]
      exact tke rfl
    have hn : numB (fourB b.length) = b.length := Wal.numB_four _ (by omega)
    rw [e4, e8, hn, if_neg (by simp; omega), if_pos (by omega)]

theorem frs_take_split : ∀ (rs : List (List UInt8)) (n : Nat), n ≤ (frs rs).length → ∃ j, j ≤ rs.length ∧ (frs (rs.take j)).length ≤ n ∧
    ((j = rs.length ∧ (frs rs).take n = frs rs) ∨ ∃ b, rs[j]? = some b ∧ n < (frs (rs.take j)).length + (12 + b.length) ∧ (frs rs).take n = frs (rs.take j) ++ (frameB b).take (n - (frs (rs.take j)).length))
  | [], n, h => ⟨0, by simp, by simp [frs], .inl ⟨rfl, by simp [frs]⟩⟩
  | b :: r, n, h => by
    by_cases hn : n < 12 + b.length
    · refine ⟨0, by simp, by simp [frs], .inr ⟨b, rfl, by simp [frs]; omega, ?_⟩⟩
      rw [frs_cons, List.take_append_of_le_length (by rw [Wal.frameB_length]; omega)]
      simp [frs]
    · rw [frs_cons, List.length_append, Wal.frameB_length] at h
      obtain ⟨j, h1, h2, h3⟩ := frs_take_split r (n - (12 + b.length)) (by omega)
      refine ⟨j + 1, by simp; omega, ?_, ?_⟩
      · rw [List.take_succ_cons, frs_cons, List.length_append, Wal.frameB_length]; omega
      · have e : (frs (b :: r)).take n = frameB b ++ (frs r).take (n - (12 + b.length)) := by
          rw [frs_cons, List.take_append, Wal.frameB_length, List.take_of_length_le (by rw [Wal.frameB_length]; omega)]
        rcases h3 with ⟨h3, h4⟩ | ⟨x, h3, h4, h5⟩
        · exact .inl ⟨by simp [h3], by rw [e, h4, frs_cons]⟩
        · refine .inr ⟨x, by simpa using h3, ?_, ?_⟩
          · rw [List.take_succ_cons, frs_cons, List.length_append, Wal.frameB_length]; omega
          · rw [e, h5, List.take_succ_cons, frs_cons, List.append_assoc, List.length_append, Wal.frameB_length]
            rw [Nat.sub_sub]

/-- the scan of the last file, cut anywhere -/
theorem scan_cut (rs : List (List UInt8)) (h : ∀ b ∈ rs, b.length ≤ 65536) (n : Nat) (hn : n ≤ (frs rs).length) : ∃ j, j ≤ rs.length ∧ (frs (rs.take j)).length ≤ n ∧ (j = rs.length ∨ n < (frs (rs.take (j + 1))).length) ∧
    scanS true (seqF (((frs rs).take n).length + 1) ((frs rs).take n)) = some (rs.take j, (frs (rs.take j)).length) := by
  obtain ⟨j, h1, h2, h3⟩ := frs_take_split rs n hn
  refine ⟨j, h1, h2, ?_, ?_⟩
  · rcases h3 with ⟨h3, _⟩ | ⟨b, h3, h4, _⟩
    · exact .inl h3
    · right
      obtain ⟨hj, e⟩ := List.getElem?_eq_some_iff.1 h3
      rw [List.take_succ_eq_append_getElem hj, frs_append, List.length_append, e, frs_one, Wal.frameB_length]
      exact h4
  · rcases h3 with ⟨h3, h4⟩ | ⟨b, h3, h4, h5⟩
    · rw [h4, h3, List.take_length]
      exact scan_full true rs h
    · have hb : b ∈ rs := List.mem_of_getElem? h3
      have hsm : ∀ x ∈ rs.take j, x.length ≤ 65536 := fun x hx => h x (List.mem_of_mem_take hx)
      generalize hk : n - (frs (rs.take j)).length = k at h5
      have hkl : k < 12 + b.length := by omega
      have hlen : ((frs rs).take n).length = (frs (rs.take j)).length + k := by
        rw [h5, List.length_append, List.length_take, Wal.frameB_length]; omega
      rw [hlen, h5]
      have hge := frs_length_ge (rs.take j)
      have := seqF_frs ((frameB b).take k) (rs.take j) hsm ((frs (rs.take j)).length + k + 1 - (rs.take j).length)
      rw [show (rs.take j).length + ((frs (rs.take j)).length + k + 1 - (rs.take j).length) = (frs (rs.take j)).length + k + 1 by omega] at this
      rw [this, scan_ok]
      have ht : scanS true (seqF ((frs (rs.take j)).length + k + 1 - (rs.take j).length) ((frameB b).take k)) = some ([], 0) := by
        obtain ⟨f, hf⟩ : ∃ f, (frs (rs.take j)).length + k + 1 - (rs.take j).length = f + 1 := ⟨(frs (rs.take j)).length + k - (rs.take j).length, by omega⟩
        rw [hf, seqF]
        split
        · rfl
        · rw [nextB_part b (h b hb) k hkl]
          simp [scanS]
      rw [ht]
      simp

/-- a disk that runs, with no plan -/
structure Runs (D : DiskM) : Prop where
  plan : D.plan = []
  up : D.down = false
theorem Runs.step {D : DiskM} (h : Runs D) : D.step true = (D.tick, 0) := step_plain h.plan h.up
theorem Runs.tick {D : DiskM} (h : Runs D) : Runs D.tick := ⟨h.plan, h.up⟩
theorem Runs.read {D : DiskM} (h : Runs D) {s : List UInt8} (hs : dnameB s = true) {f : FileM} (hf : fileAt D.files s = some f) : D.read s = (D.tick, f.b, 0) := by
  unfold DiskM.read
  rw [hs, h.step, if_neg (by simp), hf]
theorem Runs.trunc {D : DiskM} (h : Runs D) {s : List UInt8} (hs : dnameB s = true) {f : FileM} (hf : fileAt D.files s = some f) (n : Nat) (hn : n ≤ f.b.length) : (D.trunc s (n : Int)).2 = 0 := by
  unfold DiskM.trunc
  rw [hs, h.step, if_neg (by simp), hf]
  simp only
  rw [if_neg (by omega)]

theorem load_full {D : DiskM} (h : Runs D) {G : LogM} {k : Nat} (hk : k < 1000000000) (hn : G.name = LOG) (hfin : G.fin = (k : Nat)) {f : FileM} (hf : fileAt D.files (fileB LOG (k : Int)) = some f) {rs : List (List UInt8)} (hb : f.b = frs rs) (hs : ∀ b ∈ rs, b.length ≤ 65536) (last : Bool) :
    LogM.load D G (k : Int) last = (D.tick, { G with recs := G.recs ++ rs, parts := G.parts ++ [⟨(k : Int), rs.length, (frs rs).length⟩] }, 0) := by
  unfold LogM.load
  rw [hn, h.read (dn_file k hk) hf, if_neg (by simp), if_neg (by simp [hfin])]
  simp only
  rw [hb, scan_full last rs hs]
  simp only
  rw [if_neg (by omega)]
theorem load_cut {D : DiskM} (h : Runs D) {G : LogM} {k : Nat} (hk : k < 1000000000) (hn : G.name = LOG) (hfin : G.fin = (k : Nat)) {f : FileM} (hf : fileAt D.files (fileB LOG (k : Int)) = some f) {rs : List (List UInt8)} {n : Nat} (hnl : n ≤ (frs rs).length) (hb : f.b = (frs rs).take n) (hs : ∀ b ∈ rs, b.length ≤ 65536) :
    ∃ j D' P', j ≤ rs.length ∧ (frs (rs.take j)).length ≤ n ∧ (j = rs.length ∨ n < (frs (rs.take (j + 1))).length) ∧ LogM.load D G (k : Int) true = (D', { G with recs := G.recs ++ rs.take j, parts := P' }, 0) := by
  obtain ⟨j, h1, h2, h3, h4⟩ := scan_cut rs hs n hnl
  have hlen : ((frs rs).take n).length = n := by rw [List.length_take]; omega
  unfold LogM.load
  rw [hn, h.read (dn_file k hk) hf, if_neg (by simp), if_neg (by simp [hfin])]
  simp only
  rw [hb, h4]
  simp only
  by_cases hm : (frs (rs.take j)).length < ((frs rs).take n).length
  · rw [if_pos hm, h.tick.trunc (dn_file k hk) (f := f) hf _ (by rw [hb]; omega)]
    exact ⟨j, _, _, h1, h2, h3, rfl⟩
  · rw [if_neg hm]
    exact ⟨j, _, _, h1, h2, h3, rfl⟩

/-- all files but the last ones are loaded -/
theorem openAll_full (tail : List Int) (ht : tail ≠ []) : ∀ (gs : List Grp) (k i : Nat) (D : DiskM) (G : LogM), Runs D → G.name = LOG → G.fin = (k : Nat) → G.first = 0 → (i = 0 → k = 0) → (∀ g ∈ gs, g.1 ≠ [] ) → (∀ g ∈ gs, ∀ b ∈ g.1, b.length ≤ 65536) → k + (flat gs).length < 1000000000 →
    (∀ pre g post, gs = pre ++ g :: post → ∃ f, fileAt D.files (fileB LOG (((k + (flat pre).length : Nat)) : Int)) = some f ∧ f.b = frs g.1) →
    ∃ D' P' i', Runs D' ∧ D'.files = D.files ∧ (i' = 0 → gs = [] ∧ i = 0) ∧ openAll ((ks k gs).map (fun (j : Nat) => (j : Int)) ++ tail) i D G = openAll tail i' D' { G with recs := G.recs ++ flat gs, parts := P' }
  | [], k, i, D, G, hR, _, _, _, _, _, _, _, _ => ⟨D, G.parts, i, hR, rfl, fun h => ⟨rfl, h⟩, by simp [ks, flat]⟩
  | g :: r, k, i, D, G, hR, hn, hfin, hfst, hi, hne, hsm, hlt, hat => by
    obtain ⟨f, hf, hb⟩ := hat [] g r rfl
    rw [show k + (flat ([] : List Grp)).length = k by simp [flat]] at hf
    have hg0 : (if i = 0 then { G with first := ((k : Nat) : Int) } else G) = G := by
      split
      · rename_i h; rw [hi h]
        have : ((0 : Nat) : Int) = G.first := by rw [hfst]; rfl
        rw [this]
      · rfl
    have hfl : flat (g :: r) = g.1 ++ flat r := by simp [flat]
    rw [hfl, List.length_append] at hlt
    have hl := load_full hR (k := k) (by omega) hn hfin hf hb (hsm g (by simp))
    obtain ⟨D', P', i', h1, h2, h3, h4⟩ := openAll_full tail ht r (k + g.1.length) (i + 1) D.tick { G with recs := G.recs ++ g.1, parts := G.parts ++ [⟨(k : Int), g.1.length, (frs g.1).length⟩] }
      hR.tick hn (by simp only [LogM.fin, List.length_append] at hfin ⊢; omega) hfst (by omega) (fun x hx => hne x (by simp [hx])) (fun x hx => hsm x (by simp [hx])) (by omega)
      (fun pre x post e => by
        obtain ⟨f', h5, h6⟩ := hat (g :: pre) x post (by rw [e]; rfl)
        refine ⟨f', ?_, h6⟩
        rw [show k + (flat (g :: pre)).length = k + g.1.length + (flat pre).length by simp [flat]; omega] at h5
        exact h5)
    refine ⟨D', P', i', h1, h2, fun h => absurd (h3 h).2 (by omega), ?_⟩
    rw [ks, List.map_cons, List.cons_append, openAll, hg0, hl]
    rw [if_neg (by simp), h4, hfl]
    simp only [List.append_assoc]

theorem filterMap_some {α β : Type} (f : α → Option β) (g : α → β) : ∀ (l : List α), (∀ x ∈ l, f x = some (g x)) → l.filterMap f = l.map g
  | [], _ => rfl
  | x :: r, h => by
    rw [List.filterMap_cons, h x (by simp), List.map_cons, filterMap_some f g r fun y hy => h y (by simp [hy])]
theorem numbers_ks {names : List (List UInt8)} {gs : List Grp} (hne : ∀ g ∈ gs, g.1 ≠ []) (hlt : (flat gs).length < 1000000000) (hp : names.Perm ((ks 0 gs).map fun (j : Nat) => fileB LOG (j : Int))) :
    numbersB LOG names = (ks 0 gs).map fun (j : Nat) => (j : Int) := by
  unfold numbersB
  have h1 := hp.filterMap (numOf LOG)
  have h2 : ((ks 0 gs).map fun (j : Nat) => fileB LOG (j : Int)).filterMap (numOf LOG) = (ks 0 gs).map fun (j : Nat) => (j : Int) := by
    rw [List.filterMap_map]
    refine filterMap_some _ _ _ fun j hj => ?_
    have := ks_range 0 gs hne j hj
    exact numOf_file j (by omega)
  rw [h2] at h1
  refine ((List.mergeSort_perm _ _).trans h1).eq_of_pairwise (le := fun a b : Int => a ≤ b) (fun a b _ _ h h' => Int.le_antisymm h h') ?_ ?_
  · have := List.pairwise_mergeSort (le := fun x y : Int => decide (x ≤ y)) (fun a b c h h' => by simp only [decide_eq_true_eq] at *; omega) (fun a b => by simp only [Bool.or_eq_true, decide_eq_true_eq]; omega) (names.filterMap (numOf LOG))
    exact this.imp (by intro a b h; simpa using h)
  · rw [List.pairwise_map]
    exact (ks_sorted 0 gs hne).imp (by intro a b h; omega)
end Go.Proofs.YtjpcmgoajdjkgaaGreatDoor
set_option linter.all false
namespace Go.Proofs.YtjpcmgoajdjkgaaGreatDoor
open Go.RowKit
open Wal (frameB fourB numB nextB crc fileB)

theorem fileAt_map (φ : FileM → FileM) (hφ : ∀ f, (φ f).name = f.name) (s : List UInt8) : ∀ fs : List FileM, fileAt (fs.map φ) s = (fileAt fs s).map φ
  | [] => rfl
  | f :: r => by
    rw [List.map_cons, fileAt, fileAt, hφ]
    split
    · rfl
    · exact fileAt_map φ hφ s r
theorem bootFile_name (k : Option Int) (f : FileM) : (bootFile k f).name = f.name := rfl

theorem boot_map (kept : List Int) (ss : List (List UInt8)) (hss : ss.Nodup) (fs : List FileM) (hfs : (fs.map (·.name)).Nodup) (hsub : ∀ s ∈ ss, s ∈ fs.map (·.name)) :
    ∀ i, i ≤ ss.length → bootTo kept ss fs i = fs.map fun f => if f.name ∈ ss.take i then bootFile kept[ss.idxOf f.name]? f else f
  | 0, _ => by simp [bootTo]
  | i + 1, hi => by
    have ih := boot_map kept ss hss fs hfs hsub i (by omega)
    obtain ⟨s, hs⟩ : ∃ s, ss[i]? = some s := ⟨_, List.getElem?_eq_getElem (by omega)⟩
    obtain ⟨hi', hsi⟩ := List.getElem?_eq_some_iff.1 hs
    obtain ⟨f, hf⟩ := fileAt_ex (hsub s (List.mem_of_getElem? hs))
    obtain ⟨hfm, hfn⟩ := fileAt_mem hf
    have hnot : s ∉ ss.take i := by
      intro hm
      obtain ⟨j, hj, e⟩ := List.getElem_of_mem hm
      rw [List.getElem_take] at e
      rw [List.length_take] at hj
      exact List.pairwise_iff_getElem.1 hss j i (by omega) hi' (by omega) (e.trans hsi.symm)
    have hidx : ss.idxOf s = i := by
      rw [← hsi]
      exact List.Nodup.idxOf_getElem hss i hi'
    rw [bootTo, ih, bootStep, hs]
    simp only
    rw [fileAt_map _ (fun f => by split <;> simp [bootFile_name]) s fs, hf]
    simp only [Option.map_some]
    rw [hfn, if_neg hnot]
    unfold setFile
    rw [List.map_map]
    apply List.map_congr_left
    intro g hg
    simp only [Function.comp]
    have htk : ss.take (i + 1) = ss.take i ++ [s] := by rw [List.take_succ_eq_append_getElem hi', hsi]
    have hmem : g.name ∈ ss.take (i + 1) ↔ g.name ∈ ss.take i ∨ g.name = s := by rw [htk]; simp
    by_cases hgs : g.name = s
    · have hgf : g = f := List.inj_on_of_nodup_map' hfs hg hfm (hgs.trans hfn.symm)
      subst hgf
      rw [hgs, if_neg hnot, hgs, bootFile_name, hgs, if_pos rfl, if_pos (by rw [← hgs, hmem]; exact .inr hgs), hidx]
    · have e : (if g.name ∈ ss.take i then bootFile kept[ss.idxOf g.name]? g else g).name = g.name := by split <;> simp [bootFile_name]
      rw [e, bootFile_name, hfn, if_neg hgs]
      by_cases hm : g.name ∈ ss.take i
      · rw [if_pos hm, if_pos (hmem.2 (.inl hm))]
      · rw [if_neg hm, if_neg (fun h => (hmem.1 h).elim hm hgs)]

theorem boot_files (D : DiskM) (kept : List Int) (h : (D.files.map (·.name)).Nodup) : ∃ kp : List UInt8 → Option Int, (D.boot kept).files = D.files.map fun f => bootFile (kp f.name) f := by
  refine ⟨fun s => kept[D.names.idxOf s]?, ?_⟩
  have hp : D.names.Perm (D.files.map (·.name)) := List.mergeSort_perm _ _
  show bootTo kept D.names D.files D.names.length = _
  rw [boot_map kept D.names (hp.nodup_iff.2 h) D.files h (fun s hs => hp.mem_iff.1 hs) _ (Nat.le_refl _), List.take_length]
  apply List.map_congr_left
  intro f hf
  rw [if_pos (hp.mem_iff.2 (List.mem_map.2 ⟨f, hf, rfl⟩))]

theorem bootFile_some (k : Option Int) (f : FileM) (h : f.safe ≤ f.b.length) : ∃ n, f.safe ≤ n ∧ n ≤ f.b.length ∧ bootFile k f = ⟨f.name, f.b.take n, n⟩ := by
  unfold bootFile
  cases k with
  | none => exact ⟨f.safe, Nat.le_refl _, h, rfl⟩
  | some k => exact ⟨(min (max (f.safe : Int) k) f.b.length).toNat, by omega, by omega, rfl⟩
theorem bootFile_full (k : Option Int) (f : FileM) (h : f.safe = f.b.length) : bootFile k f = f := by
  obtain ⟨n, h1, h2, h3⟩ := bootFile_some k f (by omega)
  have : n = f.b.length := by omega
  rw [h3, this, List.take_length]
  cases f
  simp only at h
  subst h
  rfl

theorem names_nodup {gs : List Grp} (hne : ∀ g ∈ gs, g.1 ≠ []) (hlt : (flat gs).length < 1000000000) : ((mkFiles 0 gs).map (·.name)).Nodup := by
  rw [mkFiles_names]
  have h := ks_sorted 0 gs hne
  have hr := ks_range 0 gs hne
  generalize ks 0 gs = l at h hr
  induction l with
  | nil => simp
  | cons j r ih =>
    rw [List.pairwise_cons] at h
    rw [List.map_cons, List.nodup_cons]
    refine ⟨fun hm => ?_, ih h.2 fun x hx => hr x (by simp [hx])⟩
    obtain ⟨x, hx, e⟩ := List.mem_map.1 hm
    have h1 := hr x (by simp [hx])
    have h2 := hr j (by simp)
    have := file_inj (by omega) (by omega) e
    have := h.1 x hx
    omega
theorem file_in (pre : List Grp) (g : Grp) (post : List Grp) : mkFile (flat pre).length g ∈ mkFiles 0 (pre ++ g :: post) := by
  rw [mkFiles_append]
  simp [mkFiles]
theorem frs_mono (rs : List (List UInt8)) {i j : Nat} (h : i ≤ j) : (frs (rs.take i)).length ≤ (frs (rs.take j)).length := by
  have : rs.take i = (rs.take j).take i := by rw [List.take_take, Nat.min_eq_left h]
  rw [this]
  conv => rhs; rw [← List.take_append_drop i (rs.take j), frs_append, List.length_append]
  omega

theorem full_files : ∀ (k : Nat) (gs : List Grp), (∀ g ∈ gs, g.2 = (frs g.1).length) → ∀ f ∈ mkFiles k gs, f.safe = f.b.length
  | _, [], _, f, hf => by simp [mkFiles] at hf
  | k, g :: r, h, f, hf => by
    rw [mkFiles, List.mem_cons] at hf
    rcases hf with rfl | hf
    · exact h g (List.mem_cons_self)
    · exact full_files _ r (fun x hx => h x (List.mem_cons_of_mem _ hx)) f hf
theorem small_of {most : Int} {D : DiskM} {G : LogM} {gs : List Grp} (h : LInv most D G gs) : ∀ g ∈ gs, ∀ b ∈ g.1, b.length ≤ 65536 := fun g hg b hb => by
  have := h.small b (List.mem_flatMap.2 ⟨g, hg, hb⟩)
  omega

theorem open_boot {most : Int} {D : DiskM} {G : LogM} {gs : List Grp} (h : LInv most D G gs) (hmost : 1 ≤ most) (kept : List Int) :
    ∃ D' G' e, openM (D.boot kept) LOG most = (D', some G', 0) ∧ G'.first = 0 ∧ G'.recs = (flat gs).take e ∧ e ≤ (flat gs).length ∧ ∀ m, Syn gs m → m ≤ e := by
  have hlt : (flat gs).length < 1000000000 := by have := h.few; omega
  have hnd : (D.files.map (·.name)).Nodup := by rw [h.files]; exact names_nodup h.ne hlt
  obtain ⟨kp, hkp⟩ := boot_files D kept hnd
  have hR : Runs (D.boot kept) := ⟨rfl, rfl⟩
  have hnames : ((D.boot kept).files).map (·.name) = (ks 0 gs).map fun (j : Nat) => fileB LOG (j : Int) := by
    rw [hkp, List.map_map, ← mkFiles_names, h.files]
    rfl
  have hnum : numbersB LOG (D.boot kept).names = (ks 0 gs).map fun (j : Nat) => (j : Int) := by
    refine numbers_ks h.ne hlt ?_
    rw [← hnames]
    exact List.mergeSort_perm _ _
  unfold openM
  rw [nm0, if_neg (by simp; omega), if_neg (by rw [hR.up]; simp), hnum]
  rcases snoc_cases gs with rfl | ⟨init, ⟨rs, s⟩, rfl⟩
  · refine ⟨D.boot kept, LogM.new LOG most, 0, rfl, rfl, rfl, Nat.zero_le _, fun m hm => ?_⟩
    simpa [flat] using hm.1
  · obtain ⟨hne, hltI, hg, hsum⟩ := h.init_ne
    have hsm := small_of h
    obtain ⟨n, hn1, hn2, hn3⟩ := bootFile_some (kp (fileB LOG (((flat init).length : Nat) : Int))) (mkFile (flat init).length (rs, s)) (h.le (rs, s) (by simp))
    have hfiles : (D.boot kept).files = mkFiles 0 init ++ [⟨fileB LOG (((flat init).length : Nat) : Int), (frs rs).take n, n⟩] := by
      rw [hkp, h.files, mkFiles_snoc, List.map_append]
      congr 1
      · have hf := h.full
        rw [List.dropLast_concat] at hf
        have hfull := full_files 0 init hf
        conv => rhs; rw [← List.map_id (mkFiles 0 init)]
        apply List.map_congr_left
        intro f hf
        exact bootFile_full _ f (hfull f hf)
      · simp only [List.map_cons, List.map_nil]
        congr 1
    have hnd2 : ((D.boot kept).files.map (·.name)).Nodup := by rw [hnames, ← mkFiles_names]; exact names_nodup h.ne hlt
    rw [ks_append, List.map_append]
    obtain ⟨D', P', i', k1, k2, k3, k4⟩ := openAll_full (((ks (0 + (flat init).length) [((rs, s) : Grp)]).map fun (j : Nat) => (j : Int))) (by simp [ks]) init 0 0 (D.boot kept) (LogM.new LOG most) hR rfl rfl rfl (fun _ => rfl) hne
      (fun g hg => hsm g (by simp [hg])) (by omega) (fun pre g post e => by
        refine ⟨mkFile (flat pre).length g, ?_, rfl⟩
        rw [Nat.zero_add]
        exact fileAt_of hnd2 (f := mkFile (flat pre).length g) (by rw [hfiles, e]; exact List.mem_append_left _ (file_in pre g post)))
    rw [k4]
    simp only [ks, List.map_cons, List.map_nil, Nat.zero_add]
    have hat : fileAt D'.files (fileB LOG (((flat init).length : Nat) : Int)) = some ⟨fileB LOG (((flat init).length : Nat) : Int), (frs rs).take n, n⟩ := by
      rw [k2]
      exact fileAt_of hnd2 (f := ⟨fileB LOG (((flat init).length : Nat) : Int), (frs rs).take n, n⟩) (by rw [hfiles]; simp)
    obtain ⟨j, D2, P2, j1, j2, j3, j4⟩ := load_cut k1 (G := { LogM.new LOG most with recs := [] ++ flat init, parts := P' }) (k := (flat init).length) hltI rfl (by simp [LogM.fin, LogM.new]) hat (rs := rs) (n := n) hn2 rfl (hsm (rs, s) (by simp))
    rw [openAll]
    have hg0 : (if i' = 0 then ({ LogM.new LOG most with recs := (LogM.new LOG most).recs ++ flat init, parts := P', first := (((flat init).length : Nat) : Int) } : LogM) else { LogM.new LOG most with recs := (LogM.new LOG most).recs ++ flat init, parts := P' }) = { LogM.new LOG most with recs := [] ++ flat init, parts := P' } := by
      split
      · rename_i hi
        obtain ⟨e, _⟩ := k3 hi
        subst e
        rfl
      · rfl
    simp only [List.isEmpty_nil]
    rw [hg0, j4, if_neg (by simp), openAll]
    refine ⟨D2, _, (flat init).length + j, rfl, rfl, ?_, ?_, fun m hm => ?_⟩
    · simp only [List.nil_append]
      have e : (flat (init ++ [((rs, s) : Grp)])).take ((flat init).length + j) = flat init ++ rs.take j := by
        rw [flat_append, flat_one, List.take_append, List.take_of_length_le (l := flat init) (by omega), show (flat init).length + j - (flat init).length = j by omega]
      rw [e]
    · rw [flat_append, flat_one, List.length_append]; simp only; omega
    · have h1 := hm.1
      rw [flat_append, flat_one, List.length_append] at h1
      simp only at h1
      rcases j3 with j3 | j3
      · omega
      · have h2 := hm.2 init rs s rfl
        rcases Nat.lt_or_ge ((flat init).length + j) m with hlt2 | hge
        · exfalso
          have h3 := frs_mono rs (i := j + 1) (j := m - (flat init).length) (by omega)
          have h4 : s ≤ n := hn1
          omega
        · exact hge
end Go.Proofs.YtjpcmgoajdjkgaaGreatDoor
set_option linter.all false
namespace Go.Proofs.YtjpcmgoajdjkgaaGreatDoor
open Go.RowKit
open Wal (frameB fourB numB nextB crc fileB crcFrom byteStep bitStep)

theorem xor_cancel {a b c : Nat} (h : a ^^^ b = a ^^^ c) : b = c := by
  have := congrArg (fun x => a ^^^ x) h
  simpa [← Nat.xor_assoc, Nat.xor_self] using this
theorem bitStep_inj {c d : Nat} (hc : c < 4294967296) (hd : d < 4294967296) (h : bitStep c = bitStep d) : c = d := by
  have hx : ∀ c, c < 4294967296 → 2147483648 ≤ (c / 2) ^^^ 3988292384 := fun c hc => by
    have h1 : c / 2 < 2 ^ 31 := by omega
    have e : (c / 2) ^^^ 3988292384 = ((c / 2) ^^^ 1840808736) + 2 ^ 31 := by
      have h2 : (1840808736 : Nat) < 2 ^ 31 := by decide
      have h3 := Nat.xor_lt_two_pow h1 h2
      have e1 : (3988292384 : Nat) = 2 ^ 31 * 1 + 1840808736 := by decide
      have e2 : (3988292384 : Nat) = 2 ^ 31 * 1 ||| 1840808736 := by decide
      have e3 : (2 ^ 31 * 1 ||| 1840808736 : Nat) = 2 ^ 31 ^^^ 1840808736 := by decide
      rw [e2, e3, ← Nat.xor_assoc, Nat.xor_comm (c / 2), Nat.xor_assoc]
      have e4 : (2 ^ 31 ^^^ ((c / 2) ^^^ 1840808736)) = 2 ^ 31 * 1 + ((c / 2) ^^^ 1840808736) := by
        rw [Nat.two_pow_add_eq_or_of_lt h3 1, Nat.mul_one]
        apply Nat.eq_of_testBit_eq
        intro i
        rw [Nat.testBit_xor, Nat.testBit_or]
        by_cases hi : i = 31
        · subst hi
          rw [Nat.testBit_lt_two_pow h3]
          simp
        · have : (2 ^ 31 : Nat).testBit i = false := by rw [Nat.testBit_two_pow]; simp; omega
          rw [this]; simp
      rw [e4]; omega
    rw [e]; omega
  unfold bitStep at h
  by_cases h1 : c % 2 = 1
  · rw [if_pos h1] at h
    by_cases h2 : d % 2 = 1
    · rw [if_pos h2] at h
      have := xor_cancel (a := 3988292384) (b := c / 2) (c := d / 2) (by rw [Nat.xor_comm 3988292384 (c / 2), Nat.xor_comm 3988292384 (d / 2)]; exact h)
      omega
    · rw [if_neg h2] at h
      have := hx c hc
      omega
  · rw [if_neg h1] at h
    by_cases h2 : d % 2 = 1
    · rw [if_pos h2] at h
      have := hx d hd
      omega
    · rw [if_neg h2] at h
      omega
theorem bits_inj {c d : Nat} (hc : c < 4294967296) (hd : d < 4294967296) : ∀ k, Wal.bits c k = Wal.bits d k → c = d
  | 0, h => h
  | k + 1, h => bits_inj hc hd k (bitStep_inj (Wal.bits_lt hc k) (Wal.bits_lt hd k) h)
theorem byteStep_inj {c d : Nat} (hc : c < 4294967296) (hd : d < 4294967296) (x : UInt8) (h : byteStep c x = byteStep d x) : c = d := by
  have := bits_inj (Wal.xor_byte_lt hc x) (Wal.xor_byte_lt hd x) 8 h
  exact xor_cancel (a := x.toNat) (by rw [Nat.xor_comm x.toNat, Nat.xor_comm x.toNat]; exact this)
theorem byteStep_byte {c : Nat} (hc : c < 4294967296) {x y : UInt8} (h : byteStep c x = byteStep c y) : x = y := by
  have := bits_inj (Wal.xor_byte_lt hc x) (Wal.xor_byte_lt hc y) 8 h
  exact UInt8.toNat_inj.1 (xor_cancel (a := c) this)
theorem crcFrom_inj : ∀ (l : List UInt8) {c d : Nat}, c < 4294967296 → d < 4294967296 → crcFrom c l = crcFrom d l → c = d
  | [], _, _, _, _, h => h
  | x :: r, _, _, hc, hd, h => byteStep_inj hc hd x (crcFrom_inj r (Wal.byteStep_lt hc x) (Wal.byteStep_lt hd x) h)
theorem crc_ne (a c : List UInt8) {x y : UInt8} (h : x ≠ y) : crc (a ++ x :: c) ≠ crc (a ++ y :: c) := by
  intro e
  have hl : ∀ l, crcFrom 4294967295 l < 4294967296 := fun l => Wal.crcFrom_lt l (by omega)
  have e2 : crcFrom 4294967295 (a ++ x :: c) = crcFrom 4294967295 (a ++ y :: c) := by
    unfold crc at e
    have := hl (a ++ x :: c)
    have := hl (a ++ y :: c)
    omega
  have ha : ∀ z, crcFrom 4294967295 (a ++ z :: c) = crcFrom (byteStep (crcFrom 4294967295 a) z) c := fun z => by
    simp only [crcFrom, List.foldl_append, List.foldl_cons]
  rw [ha, ha] at e2
  exact h (byteStep_byte (hl a) (crcFrom_inj c (Wal.byteStep_lt (hl a) x) (Wal.byteStep_lt (hl a) y) e2))
theorem four_inj {a b : Nat} (ha : a < 4294967296) (hb : b < 4294967296) (h : fourB a = fourB b) : a = b := by
  have := congrArg numB h
  rwa [Wal.numB_four a ha, Wal.numB_four b hb] at this

/-- a list is one behind the other around one of its places -/
theorem split_at {α : Type} (l : List α) (i : Nat) (h : i < l.length) : l = l.take i ++ l[i] :: l.drop (i + 1) := by
  rw [← List.drop_eq_getElem_cons h, List.take_append_drop]
theorem set_split {α : Type} (l : List α) (i : Nat) (h : i < l.length) (y : α) : l.set i y = l.take i ++ y :: l.drop (i + 1) := by
  rw [List.set_eq_take_append_cons_drop, if_pos h]
theorem crc_set {l : List UInt8} {i : Nat} (h : i < l.length) {y : UInt8} (hy : y ≠ l[i]) : crc (l.set i y) ≠ crc l := by
  have e := split_at l i h
  rw [set_split l i h y]
  conv => rhs; rw [e]
  exact crc_ne _ _ hy
theorem set_ne {α : Type} {l : List α} {i : Nat} (h : i < l.length) {y : α} (hy : y ≠ l[i]) : l.set i y ≠ l := by
  intro e
  have : (l.set i y)[i]'(by simpa using h) = l[i] := by congr 1
  rw [List.getElem_set_self] at this
  exact hy this

theorem nextB_rot (b r : List UInt8) (hb : b.length ≤ 65536) (i : Nat) (hi : i < 12 + b.length) (y : UInt8) (hy : ∀ h : i < (frameB b).length, y ≠ (frameB b)[i]) :
    nextB ((frameB b).set i y ++ r) = (none, 0, 34) := by
  have hm : b.length % 4294967296 = b.length := by omega
  have hF : (frameB b).length = 12 + b.length := Wal.frameB_length b
  have hlen : ((frameB b).set i y ++ r).length = 12 + b.length + r.length := by rw [List.length_append, List.length_set, hF]
  have hy := hy (by omega)
  obtain ⟨A, hA⟩ : ∃ A, A = fourB b.length := ⟨_, rfl⟩
  obtain ⟨B, hB⟩ : ∃ B, B = fourB (crc (fourB b.length)) := ⟨_, rfl⟩
  obtain ⟨C, hC⟩ : ∃ C, C = fourB (crc b) := ⟨_, rfl⟩
  have hfr : frameB b = A ++ (B ++ (C ++ b)) := by unfold frameB; rw [hm, ← hA, hB, hC, hA]; simp [List.append_assoc]
  have lA : A.length = 4 := by rw [hA]; rfl
  have lB : B.length = 4 := by rw [hB]; rfl
  have lC : C.length = 4 := by rw [hC]; rfl
  unfold nextB
  rw [hlen, if_neg (by omega)]
  rcases Nat.lt_or_ge i 4 with h4 | h4
  · have e : (frameB b).set i y ++ r = A.set i y ++ (B ++ (C ++ (b ++ r))) := by
      rw [hfr, List.set_append_left _ _ (by omega)]; simp [List.append_assoc]
    have hyA : y ≠ A[i]'(by omega) := by
      intro e2
      refine hy (e2.trans ?_)
      simp only [hfr]
      rw [List.getElem_append_left (by omega)]
    rw [e, tke (n := 4) (A := A.set i y) (by rw [List.length_set, lA]), drp (n := 4) (A := A.set i y) (by rw [List.length_set, lA]), tke (n := 4) (A := B) lB]
    refine if_pos (.inl ?_)
    rw [hB]
    intro e2
    have e3 := four_inj (Wal.crc_lt _) (Wal.crc_lt _) e2
    rw [← hA] at e3
    exact crc_set (by omega) hyA e3
  rcases Nat.lt_or_ge i 8 with h8 | h8
  · have e : (frameB b).set i y ++ r = A ++ (B.set (i - 4) y ++ (C ++ (b ++ r))) := by
      rw [hfr, List.set_append_right _ _ (by omega), lA, List.set_append_left _ _ (by omega)]; simp [List.append_assoc]
    have hyB : y ≠ B[i - 4]'(by omega) := by
      intro e2
      refine hy (e2.trans ?_)
      simp only [hfr]
      rw [List.getElem_append_right (by omega), List.getElem_append_left (by omega)]
      try simp only [lA]
    rw [e, tke (n := 4) (A := A) lA, drp (n := 4) (A := A) lA, tke (n := 4) (A := B.set (i - 4) y) (by rw [List.length_set, lB])]
    refine if_pos (.inl ?_)
    rw [hA, ← hB]
    exact fun e2 => set_ne (by omega) hyB e2.symm
  have hNum : numB A = b.length := by rw [hA]; exact Wal.numB_four _ (by omega)
  rcases Nat.lt_or_ge i 12 with h12 | h12
  · have e : (frameB b).set i y ++ r = A ++ (B ++ (C.set (i - 8) y ++ (b ++ r))) := by
      rw [hfr, List.set_append_right _ _ (by omega), lA, List.set_append_right _ _ (by omega), lB, List.set_append_left _ _ (by omega)]; simp [List.append_assoc, Nat.sub_sub]
    have hyC : y ≠ C[i - 8]'(by omega) := by
      intro e2
      refine hy (e2.trans ?_)
      simp only [hfr]
      rw [List.getElem_append_right (by omega), List.getElem_append_right (by omega), List.getElem_append_left (by omega)]
      try simp only [lA, lB, Nat.sub_sub]
    have e8 : (A ++ (B ++ (C.set (i - 8) y ++ (b ++ r)))).drop 8 = C.set (i - 8) y ++ (b ++ r) := by
      rw [← List.append_assoc]; exact drp (by rw [List.length_append]; omega)
    have e12 : (A ++ (B ++ (C.set (i - 8) y ++ (b ++ r)))).drop 12 = b ++ r := by
      rw [← List.append_assoc, ← List.append_assoc]; exact drp (by rw [List.length_append, List.length_append, List.length_set]; omega)
    rw [e, tke (n := 4) (A := A) lA, drp (n := 4) (A := A) lA, tke (n := 4) (A := B) lB, e8, e12, hNum, tke (n := b.length) (A := b) rfl, tke (n := 4) (A := C.set (i - 8) y) (by rw [List.length_set, lC])]
    rw [if_neg (by rw [hA, hB]; simp; omega), if_neg (by omega), if_pos ?_]
    rw [← hC]
    exact fun e2 => set_ne (by omega) hyC e2.symm
  · have e : (frameB b).set i y ++ r = A ++ (B ++ (C ++ (b.set (i - 12) y ++ r))) := by
      rw [hfr, List.set_append_right _ _ (by omega), lA, List.set_append_right _ _ (by omega), lB, List.set_append_right _ _ (by omega), lC]; simp [List.append_assoc, Nat.sub_sub]
    have hyb : y ≠ b[i - 12]'(by omega) := by
      intro e2
      refine hy (e2.trans ?_)
      simp only [hfr]
      rw [List.getElem_append_right (by omega), List.getElem_append_right (by omega), List.getElem_append_right (by omega)]
      try simp only [lA, lB, lC, Nat.sub_sub]
    have e8 : (A ++ (B ++ (C ++ (b.set (i - 12) y ++ r)))).drop 8 = C ++ (b.set (i - 12) y ++ r) := by
      rw [← List.append_assoc]; exact drp (by rw [List.length_append]; omega)
    have e12 : (A ++ (B ++ (C ++ (b.set (i - 12) y ++ r)))).drop 12 = b.set (i - 12) y ++ r := by
      rw [← List.append_assoc, ← List.append_assoc]; exact drp (by rw [List.length_append, List.length_append]; omega)
    rw [e, tke (n := 4) (A := A) lA, drp (n := 4) (A := A) lA, tke (n := 4) (A := B) lB, e8, e12, hNum, tke (n := b.length) (A := b.set (i - 12) y) (by rw [List.length_set]), tke (n := 4) (A := C) lC]
    rw [if_neg (by rw [hA, hB]; simp; omega), if_neg (by omega), if_pos ?_]
    rw [hC]
    exact fun e2 => crc_set (by omega) hyb (four_inj (Wal.crc_lt _) (Wal.crc_lt _) e2)
end Go.Proofs.YtjpcmgoajdjkgaaGreatDoor
set_option linter.all false
namespace Go.Proofs.YtjpcmgoajdjkgaaGreatDoor
open Go.RowKit
open Wal (frameB fourB numB nextB crc fileB)

def DiskM.spoil (D : DiskM) (s : List UInt8) (i : Int) (x : UInt8) : DiskM × Int :=
  match fileAt D.files s with
  | none => (D, 33)
  | some f => if i < 0 ∨ (f.b.length : Int) ≤ i then (D, 1)
    else ({ D with files := setFile D.files { f with b := f.b.set i.toNat (f.b.getD i.toNat 0 ^^^ x) } }, 0)

theorem frs_at : ∀ (rs : List (List UInt8)) (i : Nat), i < (frs rs).length → ∃ a b c i', rs = a ++ b :: c ∧ i = (frs a).length + i' ∧ i' < 12 + b.length
  | [], i, h => by simp [frs] at h
  | b :: r, i, h => by
    by_cases hi : i < 12 + b.length
    · exact ⟨[], b, r, i, rfl, by simp [frs], hi⟩
    · rw [frs_cons, List.length_append, Wal.frameB_length] at h
      obtain ⟨a, x, c, i', h1, h2, h3⟩ := frs_at r (i - (12 + b.length)) (by omega)
      refine ⟨b :: a, x, c, i', by rw [h1]; rfl, ?_, h3⟩
      rw [frs_cons, List.length_append, Wal.frameB_length]
      omega
theorem scan_rot (rs : List (List UInt8)) (h : ∀ b ∈ rs, b.length ≤ 65536) (i : Nat) (hi : i < (frs rs).length) (y : UInt8) (hy : y ≠ (frs rs)[i]) (last : Bool) :
    scanS last (seqF (((frs rs).set i y).length + 1) ((frs rs).set i y)) = none := by
  obtain ⟨a, b, c, i', h1, h2, h3⟩ := frs_at rs i hi
  have hb : b.length ≤ 65536 := h b (by rw [h1]; simp)
  have ha : ∀ x ∈ a, x.length ≤ 65536 := fun x hx => h x (by rw [h1]; simp [hx])
  have hfr : frs rs = frs a ++ (frameB b ++ frs c) := by rw [h1, frs_append, frs_cons]
  have hset : (frs rs).set i y = frs a ++ ((frameB b).set i' y ++ frs c) := by
    rw [hfr, List.set_append_right _ _ (by omega), h2, Nat.add_sub_cancel_left, List.set_append_left _ _ (by rw [Wal.frameB_length]; exact h3)]
  have hyb : ∀ hl : i' < (frameB b).length, y ≠ (frameB b)[i'] := fun hl e => by
    refine hy (e.trans ?_)
    simp only [hfr]
    rw [List.getElem_append_right (by omega), List.getElem_append_left (by omega)]
    congr 1
    omega
  have hge := frs_length_ge a
  have hlen : ((frs rs).set i y).length = (frs a).length + (12 + b.length + (frs c).length) := by
    rw [hset]; simp [Wal.frameB_length]
  rw [hlen, hset]
  have := seqF_frs ((frameB b).set i' y ++ frs c) a ha ((frs a).length + (12 + b.length + (frs c).length) + 1 - a.length)
  rw [show a.length + ((frs a).length + (12 + b.length + (frs c).length) + 1 - a.length) = (frs a).length + (12 + b.length + (frs c).length) + 1 by omega] at this
  rw [this, scan_ok]
  obtain ⟨f, hf⟩ : ∃ f, (frs a).length + (12 + b.length + (frs c).length) + 1 - a.length = f + 1 := ⟨(frs a).length + (12 + b.length + (frs c).length) - a.length, by omega⟩
  have hne : (frameB b).set i' y ++ frs c ≠ [] := by
    intro e
    have := congrArg List.length e
    rw [List.length_append, List.length_set, Wal.frameB_length] at this
    simp at this
  rw [hf, seqF, if_neg hne, nextB_rot b (frs c) hb i' h3 y hyb]
  simp [scanS]

theorem load_rot {D : DiskM} (h : Runs D) {G : LogM} {k : Nat} (hk : k < 1000000000) (hn : G.name = LOG) (hfin : G.fin = (k : Nat)) {f : FileM} (hf : fileAt D.files (fileB LOG (k : Int)) = some f) {rs : List (List UInt8)} (hs : ∀ b ∈ rs, b.length ≤ 65536)
    {i : Nat} (hi : i < (frs rs).length) {y : UInt8} (hy : y ≠ (frs rs)[i]) (hb : f.b = (frs rs).set i y) (last : Bool) :
    LogM.load D G (k : Int) last = (D.tick, G, 34) := by
  unfold LogM.load
  rw [hn, h.read (dn_file k hk) hf, if_neg (by simp), if_neg (by simp [hfin])]
  simp only
  rw [hb, scan_rot rs hs i hi y hy last]

theorem mkFiles_split : ∀ (k : Nat) (gs : List Grp) (f : FileM), f ∈ mkFiles k gs → ∃ pre g post, gs = pre ++ g :: post ∧ f = mkFile (k + (flat pre).length) g
  | _, [], f, h => by simp [mkFiles] at h
  | k, g :: r, f, h => by
    rw [mkFiles, List.mem_cons] at h
    rcases h with rfl | h
    · exact ⟨[], g, r, rfl, by simp [flat]⟩
    · obtain ⟨pre, x, post, h1, h2⟩ := mkFiles_split (k + g.1.length) r f h
      refine ⟨g :: pre, x, post, by rw [h1]; rfl, ?_⟩
      rw [h2]
      congr 1
      simp [flat]; omega

theorem xor_ne {a x : UInt8} (h : x ≠ 0) : a ^^^ x ≠ a := by
  intro e
  apply h
  have := congrArg (fun z => a ^^^ z) e
  simpa [← UInt8.xor_assoc] using this

theorem open_rot {most : Int} {D : DiskM} {G : LogM} {gs : List Grp} (h : LInv most D G gs) (hmost : 1 ≤ most) (hR : Runs D) (s : List UInt8) (i : Int) (x : UInt8) (hx : x ≠ 0) (he : (D.spoil s i x).2 = 0) :
    (openM (D.spoil s i x).1 LOG most).2 = (none, 34) := by
  have hlt : (flat gs).length < 1000000000 := by have := h.few; omega
  have hnd : (D.files.map (·.name)).Nodup := by rw [h.files]; exact names_nodup h.ne hlt
  have hsm := small_of h
  unfold DiskM.spoil at he ⊢
  cases hf : fileAt D.files s with
  | none => rw [hf] at he; simp at he
  | some f =>
    rw [hf] at he
    simp only at he ⊢
    by_cases hi : i < 0 ∨ (f.b.length : Int) ≤ i
    · rw [if_pos hi] at he; simp at he
    · rw [if_neg hi]
      simp only
      obtain ⟨hfm, hfn⟩ := fileAt_mem hf
      obtain ⟨pre, g, post, hgs, hfe⟩ := mkFiles_split 0 gs f (by rw [← h.files]; exact hfm)
      rw [Nat.zero_add] at hfe
      generalize hf' : ({ f with b := f.b.set i.toNat (f.b.getD i.toNat 0 ^^^ x) } : FileM) = f'
      have hn' : f'.name = f.name := by rw [← hf']
      generalize hD' : ({ D with files := setFile D.files f' } : DiskM) = D'
      have hR' : Runs D' := by rw [← hD']; exact ⟨hR.plan, hR.up⟩
      have hfl : D'.files = setFile D.files f' := by rw [← hD']
      have hnames : D'.files.map (·.name) = (ks 0 gs).map fun (j : Nat) => fileB LOG (j : Int) := by
        rw [hfl, set_names, h.files, mkFiles_names]
      have hnd2 : (D'.files.map (·.name)).Nodup := by rw [hfl, set_names]; exact hnd
      have hnum : numbersB LOG D'.names = (ks 0 gs).map fun (j : Nat) => (j : Int) := by
        refine numbers_ks h.ne hlt ?_
        rw [← hnames]
        exact List.mergeSort_perm _ _
      unfold openM
      rw [nm0, if_neg (by simp; omega), if_neg (by rw [hR'.up]; simp), hnum]
      have hpl : (flat gs).length = (flat pre).length + (g.1.length + (flat post).length) := by rw [hgs]; simp [flat]
      have hgn : 1 ≤ g.1.length := List.length_pos_iff.2 (h.ne g (by rw [hgs]; simp))
      have hKn : f.name = fileB LOG (((flat pre).length : Nat) : Int) := by rw [hfe]; rfl
      have hks : ks 0 gs = ks 0 pre ++ (flat pre).length :: ks ((flat pre).length + g.1.length) post := by rw [hgs, ks_append]; simp [ks]
      rw [hks, List.map_append]
      obtain ⟨D2, P', i', k1, k2, k3, k4⟩ := openAll_full (((flat pre).length :: ks ((flat pre).length + g.1.length) post).map fun (j : Nat) => (j : Int)) (by simp) pre 0 0 D' (LogM.new LOG most) hR' rfl rfl rfl (fun _ => rfl) (fun y hy => h.ne y (by rw [hgs]; simp [hy]))
        (fun y hy => hsm y (by rw [hgs]; simp [hy])) (by omega) (fun p y q e => by
          refine ⟨mkFile (flat p).length y, ?_, rfl⟩
          rw [Nat.zero_add]
          have hm : mkFile (flat p).length y ∈ D.files := by rw [h.files, hgs, e, List.append_assoc]; exact file_in p y _
          have hyn : 1 ≤ y.1.length := List.length_pos_iff.2 (h.ne y (by rw [hgs, e]; simp))
          have hpp : (flat pre).length = (flat p).length + (y.1.length + (flat q).length) := by rw [e]; simp [flat]
          refine fileAt_of hnd2 (f := mkFile (flat p).length y) ?_
          rw [hfl]
          refine List.mem_map.2 ⟨_, hm, if_neg ?_⟩
          rw [hn', hKn]
          intro e2
          have := file_inj (i := (flat p).length) (j := (flat pre).length) (by omega) (by omega) e2
          omega)
      rw [k4]
      have hat : fileAt D2.files (fileB LOG (((flat pre).length : Nat) : Int)) = some f' := by
        rw [k2, ← hKn, ← hn']
        refine fileAt_of hnd2 (f := f') ?_
        rw [hfl]
        exact List.mem_map.2 ⟨f, hfm, if_pos hn'.symm⟩
      have hbl : f.b = frs g.1 := by rw [hfe]; rfl
      have hil : i.toNat < (frs g.1).length := by rw [← hbl]; omega
      have hb' : f'.b = (frs g.1).set i.toNat ((frs g.1).getD i.toNat 0 ^^^ x) := by rw [← hf', ← hbl]
      rw [List.map_cons, openAll]
      have hg0 : (if i' = 0 then ({ LogM.new LOG most with recs := (LogM.new LOG most).recs ++ flat pre, parts := P', first := (((flat pre).length : Nat) : Int) } : LogM) else { LogM.new LOG most with recs := (LogM.new LOG most).recs ++ flat pre, parts := P' }) = { LogM.new LOG most with recs := [] ++ flat pre, parts := P' } := by
        split
        · rename_i hi
          obtain ⟨e, _⟩ := k3 hi
          rw [e]
          rfl
        · rfl
      rw [hg0, load_rot k1 (G := { LogM.new LOG most with recs := [] ++ flat pre, parts := P' }) (k := (flat pre).length) (by omega) rfl (by simp [LogM.fin, LogM.new]) hat (hsm g (by rw [hgs]; simp)) hil (y := (frs g.1).getD i.toNat 0 ^^^ x) (by
        have e : (frs g.1).getD i.toNat 0 = (frs g.1)[i.toNat] := by simp [List.getD, hil]
        rw [e]
        exact xor_ne hx) hb']
      rw [if_pos (by simp)]

theorem Runs.app {D : DiskM} (h : Runs D) (s b : List UInt8) : Runs (D.append s b).1 := by
  have hk := step_keeps D (dnameB s)
  have hs : (D.step (dnameB s)).1.down = false := by
    cases dnameB s with
    | true => rw [h.step]; exact h.up
    | false => unfold DiskM.step; rw [h.up]; simp [h.up]
  have hR : Runs (D.step (dnameB s)).1 := ⟨by rw [hk.2.2]; exact h.plan, hs⟩
  unfold DiskM.append
  split
  · exact hR
  · split
    · split
      · exact hR
      split
      · exact hR
      · exact ⟨hR.plan, hR.up⟩
    · split
      · exact hR
      · exact ⟨hR.plan, hR.up⟩
theorem Runs.syn {D : DiskM} (h : Runs D) (s : List UInt8) : Runs (D.sync s).1 := by
  have hk := step_keeps D (dnameB s)
  have hs : (D.step (dnameB s)).1.down = false := by
    cases dnameB s with
    | true => rw [h.step]; exact h.up
    | false => unfold DiskM.step; rw [h.up]; simp [h.up]
  have hR : Runs (D.step (dnameB s)).1 := ⟨by rw [hk.2.2]; exact h.plan, hs⟩
  unfold DiskM.sync
  split
  · exact hR
  · split
    · exact hR
    · exact ⟨hR.plan, hR.up⟩
theorem Runs.lsync {D : DiskM} (h : Runs D) (G : LogM) : Runs (LogM.sync D G).1 := by
  unfold LogM.sync
  split
  · exact h
  · split
    · exact h
    · exact h.syn _
theorem Runs.lay {D : DiskM} (h : Runs D) (G : LogM) (p : Option PartM) (q : PartM) (b : List UInt8) : Runs (LogM.lay D G p q b).1 := by
  unfold LogM.lay
  split
  · exact h.app _ _
  · exact h.app _ _
theorem Runs.lapp {D : DiskM} (h : Runs D) (G : LogM) (b : List UInt8) : Runs (LogM.append D G b).1 := by
  unfold LogM.append
  split
  · exact h
  · split
    · exact h.lay _ _ _ _
    · split
      · exact h.lay _ _ _ _
      · split
        · exact h.lsync _
        · exact (h.lsync _).lay _ _ _ _
theorem sync_fine {most : Int} {D : DiskM} {G : LogM} {gs : List Grp} (h : LInv most D G gs) (hR : Runs D) : (LogM.sync D G).2.2 = 0 := by
  rcases snoc_cases gs with rfl | ⟨init, ⟨rs, s⟩, rfl⟩
  · have hp : G.parts = [] := by rw [h.log]; rfl
    unfold LogM.sync; rw [hp]; rfl
  · obtain ⟨hne, hlt, hg, _⟩ := h.init_ne
    have hp : G.parts.getLast? = some ⟨((flat init).length : Nat), rs.length, (frs rs).length⟩ := by rw [h.log]; simp only; rw [mkParts_snoc]; simp
    have hnm : G.name = LOG := by rw [h.log]
    unfold LogM.sync
    rw [hp]
    simp only
    by_cases hd : G.dirty = false
    · rw [if_pos hd]
    · rw [if_neg hd, hnm]
      unfold DiskM.sync
      rw [dn_file _ hlt, hR.step, if_neg (by simp), h.files, mkFiles_snoc, at_last hne hlt (mkFile (flat init).length (rs, s)) rfl]
end Go.Proofs.YtjpcmgoajdjkgaaGreatDoor
