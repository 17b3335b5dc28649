/- A log that is appended to: what stands on the disk (plain). -/
import Derived.Test.YtjpcmgoajdjkgaaGreatDoorAlP
import Derived.Lib.AtoiTie
set_option linter.all false
namespace Go.Proofs.YtjpcmgoajdjkgaaGreatDoor
open Go.RowKit
open Wal (frameB fourB numB nextB crc fileB)

theorem decFrom_append (a b : List UInt8) : ∀ acc, Go.Lib.decFrom acc (a ++ b) = (Go.Lib.decFrom acc a).bind fun m => Go.Lib.decFrom m b := by
  induction a with
  | nil => intro acc; simp [Go.Lib.decFrom]
  | cons x r ih =>
    intro acc
    simp only [List.cons_append, Go.Lib.decFrom]
    cases Go.Lib.digitVal x with
    | none => rfl
    | some d => exact ih _
theorem digitVal_of (n : Nat) (h : n < 10) : Go.Lib.digitVal (UInt8.ofNat (48 + n)) = some n := by
  unfold Go.Lib.digitVal
  have e : (UInt8.ofNat (48 + n)).toNat = 48 + n := by rw [UInt8.toNat_ofNat']; omega
  rw [e, if_pos (by omega)]
  congr 1
  omega
theorem decFrom_digits (n : Nat) : Go.Lib.decFrom 0 (Go.Lib.decDigits n) = some n := by
  induction n using Nat.strongRecOn with
  | _ n ih =>
  rw [Go.Lib.decDigits]
  split
  · rename_i h
    simp only [Go.Lib.decFrom, digitVal_of n h]
    congr 1
    omega
  · rename_i h
    rw [decFrom_append, ih (n / 10) (by omega)]
    simp only [Option.bind_some, Go.Lib.decFrom, digitVal_of (n % 10) (by omega)]
    congr 1
    omega
theorem digits_ne (n : Nat) : Go.Lib.decDigits n ≠ [] := by
  rw [Go.Lib.decDigits]
  split <;> simp
theorem digits_first (n : Nat) : ∀ c ∈ Go.Lib.decDigits n, 48 ≤ c.toNat ∧ c.toNat ≤ 57 := by
  induction n using Nat.strongRecOn with
  | _ n ih =>
  intro c hc
  rw [Go.Lib.decDigits] at hc
  split at hc
  · rename_i h
    simp only [List.mem_singleton] at hc
    subst hc
    rw [UInt8.toNat_ofNat']; omega
  · rename_i h
    rcases List.mem_append.1 hc with hc | hc
    · exact ih (n / 10) (by omega) c hc
    · simp only [List.mem_singleton] at hc
      subst hc
      rw [UInt8.toNat_ofNat']; omega
theorem atoi_digits (n : Nat) (h : n < 1000000000) : Go.Lib.atoiAll (Go.Lib.decDigits n) = .ok (n : Int) := by
  have hl := digits_length n 8 (by omega)
  rw [Go.Lib.atoiAll_short _ (by omega)]
  have hd := decFrom_digits n
  have hf := digits_first n
  have hne := digits_ne n
  generalize Go.Lib.decDigits n = l at *
  match l, hne with
  | c :: r, _ =>
    have hc := hf c (by simp)
    have h45 : c ≠ 45 := by rintro rfl; revert hc; decide
    have h43 : c ≠ 43 := by rintro rfl; revert hc; decide
    simp [Go.Lib.atoi, h45, h43, Go.Lib.decNat, hd, Go.Lib.NumEnd.ofOption]

theorem file_eq (j : Nat) (h : j < 1000000000) : fileB LOG (j : Int) = LOG ++ [46] ++ Go.Lib.decDigits j := by
  unfold fileB
  rw [if_neg (by omega)]
  rfl
theorem numOf_file (j : Nat) (h : j < 1000000000) : numOf LOG (fileB LOG (j : Int)) = some (j : Int) := by
  have hl := digits_length j 8 (by omega)
  unfold numOf
  have e1 : (LOG ++ [46]).isPrefixOf (fileB LOG (j : Int)) = true := by
    rw [file_eq j h, List.isPrefixOf_iff_prefix]
    exact List.prefix_append _ _
  have e2 : (fileB LOG (j : Int)).drop (LOG.length + 1) = Go.Lib.decDigits j := by
    rw [file_eq j h]
    exact drp (by rfl)
  rw [if_pos e1, e2, if_neg (by omega), atoi_digits j h]
  simp
theorem file_inj {i j : Nat} (hi : i < 1000000000) (hj : j < 1000000000) (h : fileB LOG (i : Int) = fileB LOG (j : Int)) : i = j := by
  have h1 := numOf_file i hi
  rw [h, numOf_file j hj] at h1
  injection h1 with h1
  omega
theorem dn_file (j : Nat) (h : j < 1000000000) : dnameB (fileB LOG (j : Int)) = true := by
  have hl := digits_length j 8 (by omega)
  have hf := digits_first j
  rw [file_eq j h]
  unfold dnameB
  have e1 : ((LOG ++ [46] ++ Go.Lib.decDigits j).any fun b => oddD b.toNat) = false := by
    rw [List.any_append]
    have : ((Go.Lib.decDigits j).any fun b => oddD b.toNat) = false := by
      rw [List.any_eq_false]
      intro c hc
      have := hf c hc
      unfold oddD
      simp
      omega
    rw [this]
    decide
  rw [e1]
  simp [LOG]
  omega

/-- frames, one behind the other -/
def frs (l : List (List UInt8)) : List UInt8 := l.flatMap frameB
theorem frs_append (a b : List (List UInt8)) : frs (a ++ b) = frs a ++ frs b := by simp [frs]
theorem frs_one (b : List UInt8) : frs [b] = frameB b := by simp [frs]
/-- the records of a file, how many of its bytes are safe -/
abbrev Grp := List (List UInt8) × Nat
def flat (gs : List Grp) : List (List UInt8) := gs.flatMap (·.1)
theorem flat_append (a b : List Grp) : flat (a ++ b) = flat a ++ flat b := by simp [flat]
theorem flat_one (g : Grp) : flat [g] = g.1 := by simp [flat]
def mkParts : Nat → List Grp → List PartM
  | _, [] => []
  | k, g :: r => ⟨(k : Int), g.1.length, (frs g.1).length⟩ :: mkParts (k + g.1.length) r
def mkFile (k : Nat) (g : Grp) : FileM := ⟨fileB LOG (k : Int), frs g.1, g.2⟩
def mkFiles : Nat → List Grp → List FileM
  | _, [] => []
  | k, g :: r => mkFile k g :: mkFiles (k + g.1.length) r
theorem mkParts_append (b : List Grp) : ∀ (k : Nat) (a : List Grp), mkParts k (a ++ b) = mkParts k a ++ mkParts (k + (flat a).length) b
  | k, [] => by simp [mkParts, flat]
  | k, g :: r => by
    simp only [List.cons_append, mkParts, mkParts_append b (k + g.1.length) r, flat, List.flatMap_cons, List.length_append]
    rw [Nat.add_assoc]
theorem mkFiles_append (b : List Grp) : ∀ (k : Nat) (a : List Grp), mkFiles k (a ++ b) = mkFiles k a ++ mkFiles (k + (flat a).length) b
  | k, [] => by simp [mkFiles, flat]
  | k, g :: r => by
    simp only [List.cons_append, mkFiles, mkFiles_append b (k + g.1.length) r, flat, List.flatMap_cons, List.length_append]
    rw [Nat.add_assoc]
/-- the numbers of the files -/
def ks : Nat → List Grp → List Nat
  | _, [] => []
  | k, g :: r => k :: ks (k + g.1.length) r
theorem ks_append (b : List Grp) : ∀ (k : Nat) (a : List Grp), ks k (a ++ b) = ks k a ++ ks (k + (flat a).length) b
  | k, [] => by simp [ks, flat]
  | k, g :: r => by
    simp only [List.cons_append, ks, ks_append b (k + g.1.length) r, flat, List.flatMap_cons, List.length_append]
    rw [Nat.add_assoc]
theorem ks_range : ∀ (k : Nat) (gs : List Grp), (∀ g ∈ gs, g.1 ≠ []) → ∀ j ∈ ks k gs, k ≤ j ∧ j < k + (flat gs).length
  | _, [], _, j, h => by simp [ks] at h
  | k, g :: r, hne, j, h => by
    have hg : 0 < g.1.length := List.length_pos_iff.2 (hne g (by simp))
    simp only [ks, List.mem_cons] at h
    simp only [flat, List.flatMap_cons, List.length_append]
    rcases h with rfl | h
    · omega
    · have := ks_range (k + g.1.length) r (fun x hx => hne x (by simp [hx])) j h
      simp only [flat] at this
      omega
theorem ks_sorted : ∀ (k : Nat) (gs : List Grp), (∀ g ∈ gs, g.1 ≠ []) → (ks k gs).Pairwise (· < ·)
  | _, [], _ => by simp [ks]
  | k, g :: r, hne => by
    have hg : 0 < g.1.length := List.length_pos_iff.2 (hne g (by simp))
    rw [ks, List.pairwise_cons]
    refine ⟨fun j hj => ?_, ks_sorted _ r (fun x hx => hne x (by simp [hx]))⟩
    have := ks_range (k + g.1.length) r (fun x hx => hne x (by simp [hx])) j hj
    omega
theorem mkFiles_names : ∀ (k : Nat) (gs : List Grp), (mkFiles k gs).map (·.name) = (ks k gs).map fun (j : Nat) => fileB LOG (j : Int)
  | _, [] => rfl
  | k, g :: r => by simp only [mkFiles, ks, List.map_cons, mkFiles_names (k + g.1.length) r, mkFile]
theorem mkFiles_mem : ∀ (k : Nat) (gs : List Grp) (f : FileM), f ∈ mkFiles k gs → ∃ j ∈ ks k gs, f.name = fileB LOG (j : Int) := by
  intro k gs f hf
  have : f.name ∈ (mkFiles k gs).map (·.name) := List.mem_map.2 ⟨f, hf, rfl⟩
  rw [mkFiles_names] at this
  obtain ⟨j, hj, e⟩ := List.mem_map.1 this
  exact ⟨j, hj, e.symm⟩

theorem fileAt_append (a b : List FileM) (s : List UInt8) (h : ∀ f ∈ a, f.name ≠ s) : fileAt (a ++ b) s = fileAt b s := by
  induction a with
  | nil => rfl
  | cons f r ih =>
    rw [List.cons_append, fileAt, if_neg (h f (by simp))]
    exact ih fun g hg => h g (by simp [hg])
theorem fileAt_absent (a : List FileM) (s : List UInt8) (h : ∀ f ∈ a, f.name ≠ s) : fileAt a s = none := by
  have := fileAt_append a [] s h
  rw [List.append_nil] at this
  rw [this]; rfl
theorem setFile_append (a b : List FileM) (f' : FileM) : setFile (a ++ b) f' = setFile a f' ++ setFile b f' := by simp [setFile]

/-- the names of files in front of number k are others -/
theorem others {gs : List Grp} (hne : ∀ g ∈ gs, g.1 ≠ []) (hs : (flat gs).length < 1000000000) : ∀ f ∈ mkFiles 0 gs, f.name ≠ fileB LOG (((flat gs).length : Nat) : Int) := by
  intro f hf e
  obtain ⟨j, hj, hn⟩ := mkFiles_mem 0 gs f hf
  have := ks_range 0 gs hne j hj
  have := file_inj (by omega) hs (hn.symm.trans e)
  omega

/-- the log G stands on the disk D: the files' groups gs, the last one's bytes may be more than what is safe -/
structure LInv (most : Int) (D : DiskM) (G : LogM) (gs : List Grp) : Prop where
  log : G = { name := LOG, most := most, parts := mkParts 0 gs, recs := flat gs, first := 0, dirty := G.dirty }
  files : D.files = mkFiles 0 gs
  ne : ∀ g ∈ gs, g.1 ≠ []
  le : ∀ g ∈ gs, g.2 ≤ (frs g.1).length
  full : ∀ g ∈ gs.dropLast, g.2 = (frs g.1).length
  clean : G.dirty = false → ∀ g ∈ gs, g.2 = (frs g.1).length
  few : (flat gs).length ≤ 1048577
  small : ∀ b ∈ flat gs, b.length ≤ 1000

/-- the first m records are safe -/
def Syn (gs : List Grp) (m : Nat) : Prop := m ≤ (flat gs).length ∧ ∀ init rs s, gs = init ++ [(rs, s)] → (frs (rs.take (m - (flat init).length))).length ≤ s

theorem LInv.new (most : Int) (D : DiskM) (h : D.files = []) : LInv most D (LogM.new LOG most) [] :=
  ⟨rfl, h, by simp, by simp, by simp, by simp, by simp [flat], by simp [flat]⟩
theorem Syn.zero (gs : List Grp) : Syn gs 0 := ⟨Nat.zero_le _, fun _ _ _ _ => by simp [frs]⟩

theorem DiskM.append_cases (D : DiskM) (s b : List UInt8) : ((D.append s b).2 ≠ 0 ∧ (D.append s b).1.files = D.files) ∨
    ((D.append s b).2 = 0 ∧ (fileAt D.files s = none ∧ (D.append s b).1.files = D.files ++ [{ name := s, b := b, safe := 0 }] ∨
      ∃ f, fileAt D.files s = some f ∧ (D.append s b).1.files = setFile D.files { f with b := f.b ++ b })) := by
  have hk := (step_keeps D (dnameB s)).1
  unfold DiskM.append
  split
  · rename_i h; exact .inl ⟨h, hk⟩
  · cases hf : fileAt D.files s with
    | none =>
      simp only
      split
      · exact .inl ⟨by simp, hk⟩
      split
      · exact .inl ⟨by simp, hk⟩
      · exact .inr ⟨rfl, .inl ⟨trivial, rfl⟩⟩
    | some f =>
      simp only
      split
      · exact .inl ⟨by simp, hk⟩
      · exact .inr ⟨rfl, .inr ⟨f, rfl, rfl⟩⟩
theorem DiskM.sync_cases (D : DiskM) (s : List UInt8) : ((D.sync s).2 ≠ 0 ∧ (D.sync s).1.files = D.files) ∨
    ((D.sync s).2 = 0 ∧ ∃ f, fileAt D.files s = some f ∧ (D.sync s).1.files = setFile D.files { f with safe := f.b.length }) := by
  have hk := (step_keeps D (dnameB s)).1
  unfold DiskM.sync
  split
  · rename_i h; exact .inl ⟨h, hk⟩
  · cases hf : fileAt D.files s with
    | none => exact .inl ⟨by simp, hk⟩
    | some f => exact .inr ⟨rfl, f, rfl, rfl⟩
end Go.Proofs.YtjpcmgoajdjkgaaGreatDoor
