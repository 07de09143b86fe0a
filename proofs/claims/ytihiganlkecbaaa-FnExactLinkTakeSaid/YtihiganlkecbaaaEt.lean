/- The types of the program, as the engine asks for them, and as Lean structures. -/
import Derived.Test.YtihiganlkecbaaaEs
import Derived.Test.YtihiganlkecbaaaChecked
import Derived.KernelRfl
import Derived.Laws.StructEq
set_option linter.unusedVariables false
namespace Go.Lap
open Go.RowKit

theorem info_run {P : Program} {t : Nat} {i : TypeInfo} (h : ∀ w, (typeInfo t).run P w = .ok i w) : P.info? t = some i := by
  have h' := h default
  cases hi : P.info? t with
  | none => simp [typeInfo, hi] at h'
  | some j => simp [typeInfo, hi] at h'; rw [h']

theorem td {P : Program} {t : Nat} {ti : TypeInfo} {z : Value} {d : TD} (h : ∀ w, (typeInfo t).run P w = .ok ti w) (h1 : ti.size = d.size) (h2 : ti.bytes = d.bytes) (h3 : ti.zero = some z) (h4 : z.cells.toList = d.zero) {u : TypeDesc} (h5 : P.underlying t = some u)
    (h6 : match (generalizing := false) d.k with
      | .sc => (match (generalizing := false) u with | .struct _ | .array _ _ => true | _ => false) = false
      | .st fs => ∃ fields, u = .struct fields ∧ fields.toList.map (fun f => (f.offset, f.type)) = fs
      | .slc e => u = .slice e
      | .mp k e => u = .map k e) (h7 : d.zero.length = d.size) (h8 : d.zero.all isPlain = true) : TDOK P t d :=
  ⟨⟨ti, z, info_run h, h1, h2, h3, h4⟩, ⟨u, h5, h6⟩, h7, fun x hx => List.all_eq_true.1 h8 x hx⟩

/-- '==' of structs of whole numbers and truths. -/
def eqR (ks : Nat → Option Bool) (us vs : List Value) : List Field → Option Bool
  | [] => some true
  | f :: fs => match decide (f.name = "_"), ks f.type, us[f.offset]?, vs[f.offset]?, eqR ks us vs fs with
    | false, some false, some (.int .i64 a), some (.int .i64 b), some r => some (decide (a = b) && r)
    | false, some true, some (.bool a), some (.bool b), some r => some ((a == b) && r)
    | _, _, _, _, _ => none
theorem part_sc {P : Program} {t off : Nat} {u : TypeDesc} {v : Value} {xs : Array Value} (ht : P.underlying t = some u) (hu : (match u with | .struct _ | .array _ _ => true | _ => false) = false) (hx : xs[off]? = some v) (w : World) : (part t xs off).run P w = .ok v w := by
  unfold part isAgg
  simp only [Sem.run_bind, run_underlying ht, Result.andThen_ok]
  cases u <;> simp_all
theorem eqR_run {P : Program} {ks : Nat → Option Bool} (hi : ∀ t, ks t = some false → ∃ k, P.underlying t = some (.int k)) (hb : ∀ t, ks t = some true → P.underlying t = some .bool) (d : Nat) {us vs : List Value} : ∀ {fs : List Field} {r : Bool}, eqR ks us vs fs = some r → ∀ w, (Op.eqFields (d + 1) us.toArray vs.toArray fs).run P w = .ok r w
  | [], r, h, w => by simp only [eqR, Option.some.injEq] at h; subst h; simp [Op.eqFields]
  | f :: fs, r, h, w => by
    unfold eqR at h
    split at h
    · rename_i a b r' hn hk hu hv hr
      cases h
      have hn' : f.name ≠ "_" := of_decide_eq_false hn
      obtain ⟨k, hk'⟩ := hi _ hk
      simp only [Op.eqFields]
      rw [if_pos hn']
      simp only [Sem.run_bind, part_sc hk' rfl (show us.toArray[f.offset]? = _ by simpa using hu), part_sc hk' rfl (show vs.toArray[f.offset]? = _ by simpa using hv), Result.andThen_ok, run_equalIn_int w d f.type _ k _ _ hk', Sem.run_ite]
      have e : (a == b) = decide (a = b) := by by_cases q : a = b <;> simp [q]
      rw [e]
      cases decide (a = b) with
      | false => simp
      | true => simpa using eqR_run hi hb d hr w
    · rename_i a b r' hn hk hu hv hr
      cases h
      have hn' : f.name ≠ "_" := of_decide_eq_false hn
      have hk' := hb _ hk
      simp only [Op.eqFields]
      rw [if_pos hn']
      simp only [Sem.run_bind, part_sc hk' rfl (show us.toArray[f.offset]? = _ by simpa using hu), part_sc hk' rfl (show vs.toArray[f.offset]? = _ by simpa using hv), Result.andThen_ok, run_equalIn_bool' w d f.type a b hk', Sem.run_ite]
      cases (a == b) with
      | false => simp
      | true => simpa using eqR_run hi hb d hr w
    · cases h
theorem eqS_of {P : Program} {ks : Nat → Option Bool} (hi : ∀ t, ks t = some false → ∃ k, P.underlying t = some (.int k)) (hb : ∀ t, ks t = some true → P.underlying t = some .bool) {t : Nat} {us vs : List Value} {r : Bool} (hg : P.eqGuardType P.depth t = false) (ht : P.underlying t = some (.struct (P.fieldsOf t))) (hp : P.stoodInHeld t = false) (h : eqR ks us vs (P.fieldsOf t).toList = some r) : EqS P t us vs r :=
  ⟨hg, fun w => by rw [run_equalIn_struct w 9999 t _ _ ht hp]; exact eqR_run hi hb 9998 h w⟩

def tt : Nat → Option TD
  | 3 => some ⟨.sc, 1, 8, [.int .i64 0]⟩
  | 4 => some ⟨.sc, 1, 1, [.bool false]⟩
  | 5 => some ⟨.sc, 1, 1, [.int .u8 0]⟩
  | 9 => some ⟨.sc, 1, 16, [.string ⟨#[]⟩]⟩
  | 23 => some ⟨.st [(0, 3), (1, 3)], 2, 16, [.int .i64 0, .int .i64 0]⟩
  | 24 => some ⟨.slc 89, 1, 24, [.slice none 0 0]⟩
  | 26 => some ⟨.st [(0, 23), (2, 24), (3, 3), (4, 3)], 5, 56, [.int .i64 0, .int .i64 0, .slice none 0 0, .int .i64 0, .int .i64 0]⟩
  | 27 => some ⟨.slc 3, 1, 24, [.slice none 0 0]⟩
  | 29 => some ⟨.st [(0, 9), (1, 3), (2, 3), (3, 26), (8, 27)], 9, 112, [.string ⟨#[]⟩, .int .i64 0, .int .i64 0, .int .i64 0, .int .i64 0, .slice none 0 0, .int .i64 0, .int .i64 0, .slice none 0 0]⟩
  | 31 => some ⟨.st [(0, 3), (1, 9), (2, 3), (3, 26)], 8, 88, [.int .i64 0, .string ⟨#[]⟩, .int .i64 0, .int .i64 0, .int .i64 0, .slice none 0 0, .int .i64 0, .int .i64 0]⟩
  | 34 => some ⟨.st [(0, 3), (1, 3)], 2, 16, [.int .i64 0, .int .i64 0]⟩
  | 35 => some ⟨.slc 82, 1, 24, [.slice none 0 0]⟩
  | 37 => some ⟨.st [(0, 34), (2, 35), (3, 3), (4, 3)], 5, 56, [.int .i64 0, .int .i64 0, .slice none 0 0, .int .i64 0, .int .i64 0]⟩
  | 39 => some ⟨.st [(0, 9), (1, 3), (2, 3), (3, 37), (8, 27)], 9, 112, [.string ⟨#[]⟩, .int .i64 0, .int .i64 0, .int .i64 0, .int .i64 0, .slice none 0 0, .int .i64 0, .int .i64 0, .slice none 0 0]⟩
  | 41 => some ⟨.st [(0, 3), (1, 9), (2, 3), (3, 37)], 8, 88, [.int .i64 0, .string ⟨#[]⟩, .int .i64 0, .int .i64 0, .int .i64 0, .slice none 0 0, .int .i64 0, .int .i64 0]⟩
  | 74 => some ⟨.slc 78, 1, 24, [.slice none 0 0]⟩
  | 78 => some ⟨.st [(0, 3), (1, 3)], 2, 16, [.int .i64 0, .int .i64 0]⟩
  | 82 => some ⟨.st [(0, 3), (1, 3), (2, 3), (3, 3), (4, 3), (5, 3), (6, 4)], 7, 56, [.int .i64 0, .int .i64 0, .int .i64 0, .int .i64 0, .int .i64 0, .int .i64 0, .bool false]⟩
  | 89 => some ⟨.st [(0, 3), (1, 3), (2, 3), (3, 3), (4, 3), (5, 3), (6, 4)], 7, 56, [.int .i64 0, .int .i64 0, .int .i64 0, .int .i64 0, .int .i64 0, .int .i64 0, .bool false]⟩
  | 91 => some ⟨.slc 105, 1, 24, [.slice none 0 0]⟩
  | 93 => some ⟨.st [(0, 9), (1, 91)], 2, 40, [.string ⟨#[]⟩, .slice none 0 0]⟩
  | 105 => some ⟨.st [(0, 3), (1, 3), (2, 3), (3, 3), (4, 3), (5, 3)], 6, 48, [.int .i64 0, .int .i64 0, .int .i64 0, .int .i64 0, .int .i64 0, .int .i64 0]⟩
  | _ => none

theorem td3 : TDOK Proofs.Try.prog 3 ⟨.sc, 1, 8, [.int .i64 0]⟩ := td Proofs.Try.typeInfo3 rfl rfl rfl rfl Proofs.Try.underlying3 rfl rfl rfl
theorem td4 : TDOK Proofs.Try.prog 4 ⟨.sc, 1, 1, [.bool false]⟩ := td Proofs.Try.typeInfo4 rfl rfl rfl rfl Proofs.Try.underlying4 rfl rfl rfl
theorem td5 : TDOK Proofs.Try.prog 5 ⟨.sc, 1, 1, [.int .u8 0]⟩ := td Proofs.Try.typeInfo5 rfl rfl rfl rfl Proofs.Try.underlying5 rfl rfl rfl
theorem td9 : TDOK Proofs.Try.prog 9 ⟨.sc, 1, 16, [.string ⟨#[]⟩]⟩ := td Proofs.Try.typeInfo9 rfl rfl rfl rfl Proofs.Try.underlying9 rfl rfl rfl
theorem td23 : TDOK Proofs.Try.prog 23 ⟨.st [(0, 3), (1, 3)], 2, 16, [.int .i64 0, .int .i64 0]⟩ := td Proofs.Try.typeInfo23 rfl rfl rfl rfl Proofs.Try.underlying23 ⟨_, rfl, rfl⟩ rfl rfl
theorem td24 : TDOK Proofs.Try.prog 24 ⟨.slc 89, 1, 24, [.slice none 0 0]⟩ := td Proofs.Try.typeInfo24 rfl rfl rfl rfl Proofs.Try.underlying24 rfl rfl rfl
theorem td26 : TDOK Proofs.Try.prog 26 ⟨.st [(0, 23), (2, 24), (3, 3), (4, 3)], 5, 56, [.int .i64 0, .int .i64 0, .slice none 0 0, .int .i64 0, .int .i64 0]⟩ := td Proofs.Try.typeInfo26 rfl rfl rfl rfl Proofs.Try.underlying26 ⟨_, rfl, rfl⟩ rfl rfl
theorem td27 : TDOK Proofs.Try.prog 27 ⟨.slc 3, 1, 24, [.slice none 0 0]⟩ := td Proofs.Try.typeInfo27 rfl rfl rfl rfl Proofs.Try.underlying27 rfl rfl rfl
theorem td29 : TDOK Proofs.Try.prog 29 ⟨.st [(0, 9), (1, 3), (2, 3), (3, 26), (8, 27)], 9, 112, [.string ⟨#[]⟩, .int .i64 0, .int .i64 0, .int .i64 0, .int .i64 0, .slice none 0 0, .int .i64 0, .int .i64 0, .slice none 0 0]⟩ := td Proofs.Try.typeInfo29 rfl rfl rfl rfl Proofs.Try.underlying29 ⟨_, rfl, rfl⟩ rfl rfl
theorem td31 : TDOK Proofs.Try.prog 31 ⟨.st [(0, 3), (1, 9), (2, 3), (3, 26)], 8, 88, [.int .i64 0, .string ⟨#[]⟩, .int .i64 0, .int .i64 0, .int .i64 0, .slice none 0 0, .int .i64 0, .int .i64 0]⟩ := td Proofs.Try.typeInfo31 rfl rfl rfl rfl Proofs.Try.underlying31 ⟨_, rfl, rfl⟩ rfl rfl
theorem td34 : TDOK Proofs.Try.prog 34 ⟨.st [(0, 3), (1, 3)], 2, 16, [.int .i64 0, .int .i64 0]⟩ := td Proofs.Try.typeInfo34 rfl rfl rfl rfl Proofs.Try.underlying34 ⟨_, rfl, rfl⟩ rfl rfl
theorem td35 : TDOK Proofs.Try.prog 35 ⟨.slc 82, 1, 24, [.slice none 0 0]⟩ := td Proofs.Try.typeInfo35 rfl rfl rfl rfl Proofs.Try.underlying35 rfl rfl rfl
theorem td37 : TDOK Proofs.Try.prog 37 ⟨.st [(0, 34), (2, 35), (3, 3), (4, 3)], 5, 56, [.int .i64 0, .int .i64 0, .slice none 0 0, .int .i64 0, .int .i64 0]⟩ := td Proofs.Try.typeInfo37 rfl rfl rfl rfl Proofs.Try.underlying37 ⟨_, rfl, rfl⟩ rfl rfl
theorem td39 : TDOK Proofs.Try.prog 39 ⟨.st [(0, 9), (1, 3), (2, 3), (3, 37), (8, 27)], 9, 112, [.string ⟨#[]⟩, .int .i64 0, .int .i64 0, .int .i64 0, .int .i64 0, .slice none 0 0, .int .i64 0, .int .i64 0, .slice none 0 0]⟩ := td Proofs.Try.typeInfo39 rfl rfl rfl rfl Proofs.Try.underlying39 ⟨_, rfl, rfl⟩ rfl rfl
theorem td41 : TDOK Proofs.Try.prog 41 ⟨.st [(0, 3), (1, 9), (2, 3), (3, 37)], 8, 88, [.int .i64 0, .string ⟨#[]⟩, .int .i64 0, .int .i64 0, .int .i64 0, .slice none 0 0, .int .i64 0, .int .i64 0]⟩ := td Proofs.Try.typeInfo41 rfl rfl rfl rfl Proofs.Try.underlying41 ⟨_, rfl, rfl⟩ rfl rfl
theorem td74 : TDOK Proofs.Try.prog 74 ⟨.slc 78, 1, 24, [.slice none 0 0]⟩ := td Proofs.Try.typeInfo74 rfl rfl rfl rfl Proofs.Try.underlying74 rfl rfl rfl
theorem td78 : TDOK Proofs.Try.prog 78 ⟨.st [(0, 3), (1, 3)], 2, 16, [.int .i64 0, .int .i64 0]⟩ := td Proofs.Try.typeInfo78 rfl rfl rfl rfl Proofs.Try.underlying78 ⟨_, rfl, rfl⟩ rfl rfl
theorem td82 : TDOK Proofs.Try.prog 82 ⟨.st [(0, 3), (1, 3), (2, 3), (3, 3), (4, 3), (5, 3), (6, 4)], 7, 56, [.int .i64 0, .int .i64 0, .int .i64 0, .int .i64 0, .int .i64 0, .int .i64 0, .bool false]⟩ := td Proofs.Try.typeInfo82 rfl rfl rfl rfl Proofs.Try.underlying82 ⟨_, rfl, rfl⟩ rfl rfl
theorem td89 : TDOK Proofs.Try.prog 89 ⟨.st [(0, 3), (1, 3), (2, 3), (3, 3), (4, 3), (5, 3), (6, 4)], 7, 56, [.int .i64 0, .int .i64 0, .int .i64 0, .int .i64 0, .int .i64 0, .int .i64 0, .bool false]⟩ := td Proofs.Try.typeInfo89 rfl rfl rfl rfl Proofs.Try.underlying89 ⟨_, rfl, rfl⟩ rfl rfl
theorem td91 : TDOK Proofs.Try.prog 91 ⟨.slc 105, 1, 24, [.slice none 0 0]⟩ := td Proofs.Try.typeInfo91 rfl rfl rfl rfl Proofs.Try.underlying91 rfl rfl rfl
theorem td93 : TDOK Proofs.Try.prog 93 ⟨.st [(0, 9), (1, 91)], 2, 40, [.string ⟨#[]⟩, .slice none 0 0]⟩ := td Proofs.Try.typeInfo93 rfl rfl rfl rfl Proofs.Try.underlying93 ⟨_, rfl, rfl⟩ rfl rfl
theorem td105 : TDOK Proofs.Try.prog 105 ⟨.st [(0, 3), (1, 3), (2, 3), (3, 3), (4, 3), (5, 3)], 6, 48, [.int .i64 0, .int .i64 0, .int .i64 0, .int .i64 0, .int .i64 0, .int .i64 0]⟩ := td Proofs.Try.typeInfo105 rfl rfl rfl rfl Proofs.Try.underlying105 ⟨_, rfl, rfl⟩ rfl rfl

theorem hT : TyOK Proofs.Try.prog tt := by
  intro t d h
  unfold tt at h
  split at h
  · cases h; exact td3
  · cases h; exact td4
  · cases h; exact td5
  · cases h; exact td9
  · cases h; exact td23
  · cases h; exact td24
  · cases h; exact td26
  · cases h; exact td27
  · cases h; exact td29
  · cases h; exact td31
  · cases h; exact td34
  · cases h; exact td35
  · cases h; exact td37
  · cases h; exact td39
  · cases h; exact td41
  · cases h; exact td74
  · cases h; exact td78
  · cases h; exact td82
  · cases h; exact td89
  · cases h; exact td91
  · cases h; exact td93
  · cases h; exact td105
  · cases h

theorem hM : Proofs.Try.prog.follows .mixedOrders = true := rfl

def ksT : Nat → Option Bool
  | 3 => some false
  | 4 => some true
  | _ => none
theorem ksI : ∀ t, ksT t = some false → ∃ k, Proofs.Try.prog.underlying t = some (.int k) := by
  intro t h
  unfold ksT at h
  split at h
  · exact ⟨_, Proofs.Try.underlying3⟩
  · cases h
  · cases h
theorem ksB : ∀ t, ksT t = some true → Proofs.Try.prog.underlying t = some .bool := by
  intro t h
  unfold ksT at h
  split at h
  · cases h
  · exact Proofs.Try.underlying4
  · cases h

def Int.row (n : Int) : List C1 := [.v (.int .i64 n)]
def Int.vals (n : Int) : List Value := [.int .i64 n]
theorem Int.rv (xs : List Int) : xs.map Int.row = (xs.map Int.vals).map (fun r => r.map C1.v) := by simp only [List.map_map]; rfl
def Int.rowu8 (n : Int) : List C1 := [.v (.int .u8 n)]
def Int.valsu8 (n : Int) : List Value := [.int .u8 n]
theorem Int.rvu8 (xs : List Int) : xs.map Int.rowu8 = (xs.map Int.valsu8).map (fun r => r.map C1.v) := by simp only [List.map_map]; rfl
def ByteArray.row (n : ByteArray) : List C1 := [.v (.string n)]
def ByteArray.vals (n : ByteArray) : List Value := [.string n]
theorem ByteArray.rv (xs : List ByteArray) : xs.map ByteArray.row = (xs.map ByteArray.vals).map (fun r => r.map C1.v) := by simp only [List.map_map]; rfl

structure FlyKind where
  Quick : Int
  Slow : Int
  deriving Inhabited
def FlyKind.cs (t : Tag) (x : FlyKind) : List Cell := [.v (.int .i64 x.Quick), .v (.int .i64 x.Slow)]
def FlyKind.row (x : FlyKind) : List C1 := [.v (.int .i64 x.Quick), .v (.int .i64 x.Slow)]
theorem FlyKind.up (t : Tag) (x : FlyKind) : (FlyKind.row x).map (up1 t) = FlyKind.cs t x := rfl
theorem FlyKind.dn {ob : Nat → Option (Nat × AObj)} (t : Tag) (x : FlyKind) : DnL ob (FlyKind.cs t x) (FlyKind.row x) [] := .of_downs rfl
theorem FlyKind.ld (t : Tag) (x : FlyKind) : ldV true ((FlyKind.row x).map (up1 t)) = some (.ag (FlyKind.cs t x)) := by rw [FlyKind.up]; rfl
def FlyKind.beq (x y : FlyKind) : Bool := decide (x.Quick = y.Quick) && (decide (x.Slow = y.Slow) && (true))
def FlyKind.vals (x : FlyKind) : List Value := [.int .i64 x.Quick, .int .i64 x.Slow]
theorem FlyKind.rv (xs : List FlyKind) : xs.map FlyKind.row = (xs.map FlyKind.vals).map (fun r => r.map C1.v) := by simp only [List.map_map]; rfl

structure FlyStep where
  X : Int
  Y : Int
  Low : Int
  High : Int
  From : Int
  By : Int
  Hold : Bool
  deriving Inhabited
def FlyStep.cs (t : Tag) (x : FlyStep) : List Cell := [.v (.int .i64 x.X), .v (.int .i64 x.Y), .v (.int .i64 x.Low), .v (.int .i64 x.High), .v (.int .i64 x.From), .v (.int .i64 x.By), .v (.bool x.Hold)]
def FlyStep.row (x : FlyStep) : List C1 := [.v (.int .i64 x.X), .v (.int .i64 x.Y), .v (.int .i64 x.Low), .v (.int .i64 x.High), .v (.int .i64 x.From), .v (.int .i64 x.By), .v (.bool x.Hold)]
theorem FlyStep.up (t : Tag) (x : FlyStep) : (FlyStep.row x).map (up1 t) = FlyStep.cs t x := rfl
theorem FlyStep.dn {ob : Nat → Option (Nat × AObj)} (t : Tag) (x : FlyStep) : DnL ob (FlyStep.cs t x) (FlyStep.row x) [] := .of_downs rfl
theorem FlyStep.ld (t : Tag) (x : FlyStep) : ldV true ((FlyStep.row x).map (up1 t)) = some (.ag (FlyStep.cs t x)) := by rw [FlyStep.up]; rfl
def FlyStep.beq (x y : FlyStep) : Bool := decide (x.X = y.X) && (decide (x.Y = y.Y) && (decide (x.Low = y.Low) && (decide (x.High = y.High) && (decide (x.From = y.From) && (decide (x.By = y.By) && ((x.Hold == y.Hold) && (true)))))))
def FlyStep.vals (x : FlyStep) : List Value := [.int .i64 x.X, .int .i64 x.Y, .int .i64 x.Low, .int .i64 x.High, .int .i64 x.From, .int .i64 x.By, .bool x.Hold]
theorem FlyStep.rv (xs : List FlyStep) : xs.map FlyStep.row = (xs.map FlyStep.vals).map (fun r => r.map C1.v) := by simp only [List.map_map]; rfl

structure FlyPath where
  Kind : FlyKind
  Steps : (List FlyStep)
  From : Int
  By : Int
  deriving Inhabited
def FlyPath.cs (t : Tag) (x : FlyPath) : List Cell := [.v (.int .i64 x.Kind.Quick), .v (.int .i64 x.Kind.Slow), .sl t 7 (x.Steps.map FlyStep.row), .v (.int .i64 x.From), .v (.int .i64 x.By)]
def FlyPath.row (x : FlyPath) : List C1 := [.v (.int .i64 x.Kind.Quick), .v (.int .i64 x.Kind.Slow), .sl 7 (x.Steps.map FlyStep.vals), .v (.int .i64 x.From), .v (.int .i64 x.By)]
theorem FlyPath.up (t : Tag) (x : FlyPath) : (FlyPath.row x).map (up1 t) = FlyPath.cs t x := by simp only [FlyPath.row, FlyPath.cs, List.map_cons, List.map_nil, up1, FlyStep.rv]
theorem FlyPath.dn {ob : Nat → Option (Nat × AObj)} (x : FlyPath) : DnL ob (FlyPath.cs .frz x) (FlyPath.row x) [] := .cons (.v rfl) (.cons (.v rfl) (.cons (.frz (FlyStep.rv _)) (.cons (.v rfl) (.cons (.v rfl) .nil))))
theorem FlyPath.ld (t : Tag) (x : FlyPath) : ldV true ((FlyPath.row x).map (up1 t)) = some (.ag (FlyPath.cs t x)) := by rw [FlyPath.up]; rfl
abbrev FlyPath.ok (x : FlyPath) : Prop := x.Steps.length ≤ 1048576
abbrev FlyPath.big (x : FlyPath) : Prop := x.Steps.length ≤ 9223372036854775807

structure LinkCraft where
  Name : ByteArray
  Number : Int
  No : Int
  Path : FlyPath
  Flown : (List Int)
  deriving Inhabited
def LinkCraft.cs (t : Tag) (x : LinkCraft) : List Cell := [.v (.string x.Name), .v (.int .i64 x.Number), .v (.int .i64 x.No), .v (.int .i64 x.Path.Kind.Quick), .v (.int .i64 x.Path.Kind.Slow), .sl t 7 (x.Path.Steps.map FlyStep.row), .v (.int .i64 x.Path.From), .v (.int .i64 x.Path.By), .sl t 1 (x.Flown.map Int.row)]
def LinkCraft.row (x : LinkCraft) : List C1 := [.v (.string x.Name), .v (.int .i64 x.Number), .v (.int .i64 x.No), .v (.int .i64 x.Path.Kind.Quick), .v (.int .i64 x.Path.Kind.Slow), .sl 7 (x.Path.Steps.map FlyStep.vals), .v (.int .i64 x.Path.From), .v (.int .i64 x.Path.By), .sl 1 (x.Flown.map Int.vals)]
theorem LinkCraft.up (t : Tag) (x : LinkCraft) : (LinkCraft.row x).map (up1 t) = LinkCraft.cs t x := by simp only [LinkCraft.row, LinkCraft.cs, List.map_cons, List.map_nil, up1, FlyStep.rv, Int.rv]
theorem LinkCraft.dn {ob : Nat → Option (Nat × AObj)} (x : LinkCraft) : DnL ob (LinkCraft.cs .frz x) (LinkCraft.row x) [] := .cons (.v rfl) (.cons (.v rfl) (.cons (.v rfl) (.cons (.v rfl) (.cons (.v rfl) (.cons (.frz (FlyStep.rv _)) (.cons (.v rfl) (.cons (.v rfl) (.cons (.frz (Int.rv _)) .nil))))))))
theorem LinkCraft.ld (t : Tag) (x : LinkCraft) : ldV true ((LinkCraft.row x).map (up1 t)) = some (.ag (LinkCraft.cs t x)) := by rw [LinkCraft.up]; rfl
abbrev LinkCraft.ok (x : LinkCraft) : Prop := x.Path.Steps.length ≤ 1048576 ∧ x.Flown.length ≤ 1048576
abbrev LinkCraft.big (x : LinkCraft) : Prop := x.Name.size ≤ 9223372036854775807 ∧ x.Path.Steps.length ≤ 9223372036854775807 ∧ x.Flown.length ≤ 9223372036854775807

structure LinkWord where
  Kind : Int
  Name : ByteArray
  Number : Int
  Path : FlyPath
  deriving Inhabited
def LinkWord.cs (t : Tag) (x : LinkWord) : List Cell := [.v (.int .i64 x.Kind), .v (.string x.Name), .v (.int .i64 x.Number), .v (.int .i64 x.Path.Kind.Quick), .v (.int .i64 x.Path.Kind.Slow), .sl t 7 (x.Path.Steps.map FlyStep.row), .v (.int .i64 x.Path.From), .v (.int .i64 x.Path.By)]
def LinkWord.row (x : LinkWord) : List C1 := [.v (.int .i64 x.Kind), .v (.string x.Name), .v (.int .i64 x.Number), .v (.int .i64 x.Path.Kind.Quick), .v (.int .i64 x.Path.Kind.Slow), .sl 7 (x.Path.Steps.map FlyStep.vals), .v (.int .i64 x.Path.From), .v (.int .i64 x.Path.By)]
theorem LinkWord.up (t : Tag) (x : LinkWord) : (LinkWord.row x).map (up1 t) = LinkWord.cs t x := by simp only [LinkWord.row, LinkWord.cs, List.map_cons, List.map_nil, up1, FlyStep.rv]
theorem LinkWord.dn {ob : Nat → Option (Nat × AObj)} (x : LinkWord) : DnL ob (LinkWord.cs .frz x) (LinkWord.row x) [] := .cons (.v rfl) (.cons (.v rfl) (.cons (.v rfl) (.cons (.v rfl) (.cons (.v rfl) (.cons (.frz (FlyStep.rv _)) (.cons (.v rfl) (.cons (.v rfl) .nil)))))))
theorem LinkWord.ld (t : Tag) (x : LinkWord) : ldV true ((LinkWord.row x).map (up1 t)) = some (.ag (LinkWord.cs t x)) := by rw [LinkWord.up]; rfl
abbrev LinkWord.ok (x : LinkWord) : Prop := x.Path.Steps.length ≤ 1048576
abbrev LinkWord.big (x : LinkWord) : Prop := x.Name.size ≤ 9223372036854775807 ∧ x.Path.Steps.length ≤ 9223372036854775807

structure FlySpan where
  Low : Int
  High : Int
  deriving Inhabited
def FlySpan.cs (t : Tag) (x : FlySpan) : List Cell := [.v (.int .i64 x.Low), .v (.int .i64 x.High)]
def FlySpan.row (x : FlySpan) : List C1 := [.v (.int .i64 x.Low), .v (.int .i64 x.High)]
theorem FlySpan.up (t : Tag) (x : FlySpan) : (FlySpan.row x).map (up1 t) = FlySpan.cs t x := rfl
theorem FlySpan.dn {ob : Nat → Option (Nat × AObj)} (t : Tag) (x : FlySpan) : DnL ob (FlySpan.cs t x) (FlySpan.row x) [] := .of_downs rfl
theorem FlySpan.ld (t : Tag) (x : FlySpan) : ldV true ((FlySpan.row x).map (up1 t)) = some (.ag (FlySpan.cs t x)) := by rw [FlySpan.up]; rfl
def FlySpan.beq (x y : FlySpan) : Bool := decide (x.Low = y.Low) && (decide (x.High = y.High) && (true))
def FlySpan.vals (x : FlySpan) : List Value := [.int .i64 x.Low, .int .i64 x.High]
theorem FlySpan.rv (xs : List FlySpan) : xs.map FlySpan.row = (xs.map FlySpan.vals).map (fun r => r.map C1.v) := by simp only [List.map_map]; rfl

structure ProbeBox where
  X : Int
  Y : Int
  Low : Int
  High : Int
  In : Int
  Out : Int
  deriving Inhabited
def ProbeBox.cs (t : Tag) (x : ProbeBox) : List Cell := [.v (.int .i64 x.X), .v (.int .i64 x.Y), .v (.int .i64 x.Low), .v (.int .i64 x.High), .v (.int .i64 x.In), .v (.int .i64 x.Out)]
def ProbeBox.row (x : ProbeBox) : List C1 := [.v (.int .i64 x.X), .v (.int .i64 x.Y), .v (.int .i64 x.Low), .v (.int .i64 x.High), .v (.int .i64 x.In), .v (.int .i64 x.Out)]
theorem ProbeBox.up (t : Tag) (x : ProbeBox) : (ProbeBox.row x).map (up1 t) = ProbeBox.cs t x := rfl
theorem ProbeBox.dn {ob : Nat → Option (Nat × AObj)} (t : Tag) (x : ProbeBox) : DnL ob (ProbeBox.cs t x) (ProbeBox.row x) [] := .of_downs rfl
theorem ProbeBox.ld (t : Tag) (x : ProbeBox) : ldV true ((ProbeBox.row x).map (up1 t)) = some (.ag (ProbeBox.cs t x)) := by rw [ProbeBox.up]; rfl
def ProbeBox.beq (x y : ProbeBox) : Bool := decide (x.X = y.X) && (decide (x.Y = y.Y) && (decide (x.Low = y.Low) && (decide (x.High = y.High) && (decide (x.In = y.In) && (decide (x.Out = y.Out) && (true))))))
def ProbeBox.vals (x : ProbeBox) : List Value := [.int .i64 x.X, .int .i64 x.Y, .int .i64 x.Low, .int .i64 x.High, .int .i64 x.In, .int .i64 x.Out]
theorem ProbeBox.rv (xs : List ProbeBox) : xs.map ProbeBox.row = (xs.map ProbeBox.vals).map (fun r => r.map C1.v) := by simp only [List.map_map]; rfl

structure ProbeTube where
  Name : ByteArray
  Boxes : (List ProbeBox)
  deriving Inhabited
def ProbeTube.cs (t : Tag) (x : ProbeTube) : List Cell := [.v (.string x.Name), .sl t 6 (x.Boxes.map ProbeBox.row)]
def ProbeTube.row (x : ProbeTube) : List C1 := [.v (.string x.Name), .sl 6 (x.Boxes.map ProbeBox.vals)]
theorem ProbeTube.up (t : Tag) (x : ProbeTube) : (ProbeTube.row x).map (up1 t) = ProbeTube.cs t x := by simp only [ProbeTube.row, ProbeTube.cs, List.map_cons, List.map_nil, up1, ProbeBox.rv]
theorem ProbeTube.dn {ob : Nat → Option (Nat × AObj)} (x : ProbeTube) : DnL ob (ProbeTube.cs .frz x) (ProbeTube.row x) [] := .cons (.v rfl) (.cons (.frz (ProbeBox.rv _)) .nil)
theorem ProbeTube.ld (t : Tag) (x : ProbeTube) : ldV true ((ProbeTube.row x).map (up1 t)) = some (.ag (ProbeTube.cs t x)) := by rw [ProbeTube.up]; rfl
abbrev ProbeTube.ok (x : ProbeTube) : Prop := x.Boxes.length ≤ 1048576
abbrev ProbeTube.big (x : ProbeTube) : Prop := x.Name.size ≤ 9223372036854775807 ∧ x.Boxes.length ≤ 9223372036854775807

theorem eqS34 (x y : FlyKind) : EqS Proofs.Try.prog 34 (FlyKind.vals x) (FlyKind.vals y) (FlyKind.beq x y) := eqS_of ksI ksB (by kernel_rfl) (by kernel_rfl) (by kernel_rfl) (by kernel_rfl)
theorem eqS82 (x y : FlyStep) : EqS Proofs.Try.prog 82 (FlyStep.vals x) (FlyStep.vals y) (FlyStep.beq x y) := eqS_of ksI ksB (by kernel_rfl) (by kernel_rfl) (by kernel_rfl) (by kernel_rfl)
end Go.Lap

