/- The engine, part A: typed trees, canonical values, and what it means that memory holds them. -/
import Derived.Orders
import Derived.Below
import Derived.Laws.Rows
import Derived.Laws.CopyRow
import Derived.Laws.AppendOwn
import Derived.Laws.MakeOwn
import Derived.Laws.OwnMore
import Derived.KernelRfl
namespace Go.Eng

/-- How a slice is held: to be read alone; that, and all its memory is new; its own row of new elements; its own row of elements that lead anywhere. -/
inductive Md where
  | ro | fr | own | ownx
  deriving DecidableEq

/-- Types of data. (The mode of a slice counts at the outer levels of what is handed over.) -/
inductive Ty where
  | unit | int (k : IntKind) | bool | str | arr (n : Nat) (k : IntKind) | sl (o : Md) (t : Ty) | prod (a b : Ty) | opq | ifc
  deriving DecidableEq

def Ty.den : Ty → Type
  | .unit => Unit
  | .int _ => Int
  | .bool => Bool
  | .str => ByteArray
  | .arr _ _ => List Int
  | .sl _ t => List t.den
  | .prod a b => a.den × b.den
  | .opq => Empty
  | .ifc => Empty

def Ty.size : Ty → Nat
  | .unit => 0
  | .arr n _ => n
  | .prod a b => a.size + b.size
  | _ => 1

/-- Types whose fields end well. -/
def Ty.good : Ty → Bool
  | .prod a b => a.good && b.good && (match b with | .unit | .prod _ _ => true | _ => false)
  | .sl m t => decide (m = .ro) && t.good && decide (0 < t.size)
  | _ => true

def Ty.isAgg : Ty → Bool
  | .unit | .arr _ _ | .prod _ _ => true
  | _ => false

/-- Canonical values. -/
inductive V where
  | undef
  | skip
  | int (k : IntKind) (n : Int)
  | bool (b : Bool)
  | str (s : ByteArray)
  | arr (n : Nat) (k : IntKind) (l : List Int)
  | sl (f : Bool) (t : Ty) (l : List t.den)
  | nils
  | own (m : Nat)
  | node (vs : List V)
  | ptr (m : Nat) (p : List Nat)
  | eptr (f : Bool) (t : Ty) (x : t.den)
  | vsl (m : Nat) (p : List Nat) (lo hi : Nat)
  | vap (m : Nat) (p : List Nat) (lo n : Nat)
  | nilp
  | tup (vs : List V)
  | iface (T : TypeId) (v : V)
  | nilif
  | fn (f : FuncId)
  | obj (t : Ty) (v : V)
  | arrc (f : Bool) (t : Ty) (l : List t.den)
  | frzc (f : Bool) (t : Ty) (l : List t.den)
  | iter (s : ByteArray) (pos : Nat)
  | dead

def consN (v : V) : V → V
  | .node vs => .node (v :: vs)
  | u => .node [v, u]

def expand (f : Bool) : (t : Ty) → t.den → V
  | .unit, _ => .node []
  | .int k, n => .int k n
  | .bool, b => .bool b
  | .str, s => .str s
  | .arr n k, l => .arr n k l
  | .sl _ t, l => .sl f t l
  | .prod a b, x => consN (expand f a x.1) (expand f b x.2)
  | .opq, x => nomatch x
  | .ifc, x => nomatch x

def castD {t u : Ty} (h : t = u) (x : t.den) : u.den := h ▸ x
def castL {t u : Ty} (h : t = u) (x : List t.den) : List u.den := h ▸ x

/-- The datum that a value is, with whether what it leads to is new. -/
def gather : (t : Ty) → V → Option t.den
  | .unit, .node [] => some ()
  | .int k, .int k' n => if k' = k then some n else none
  | .bool, .bool b => some b
  | .str, .str s => some s
  | .arr n k, .arr n' k' l => if n' = n ∧ k' = k then some l else none
  | .sl _ t, .sl _ t' l => if h : t' = t then some (castL h l) else none
  | .sl _ _, .nils => some []
  | .prod a b, .node (v :: vs) => (gather a v).bind fun x => (gather b (.node vs)).map fun y => (x, y)
  | _, _ => none

/-- Is a whole number of its kind? -/
def okInt (k : IntKind) (n : Int) : Prop := k.wrap n = n

/-- What a name stands for. -/
inductive Ref where
  | none
  | dead
  | var (b : Nat) (t : Ty)
  | arr (b : Option Nat) (t : Ty) (len cap : Nat)
  | frz (b : Option Nat) (t : Ty) (len cap : Nat)
  | iter (b : Nat)

def Ref.blk : Ref → Option Nat
  | .var b _ => some b
  | .arr b _ _ _ => b
  | .iter b => some b
  | _ => Option.none

/-- Where a path leads: the cells ahead of it, and the type there. -/
def Ty.at : Ty → List Nat → Option (Nat × Ty)
  | t, [] => some (0, t)
  | .prod a _, 0 :: p => a.at p
  | .prod a b, (i + 1) :: p => (b.at (i :: p)).map fun r => (a.size + r.1, r.2)
  | .arr n k, [i] => if i < n then some (i, .int k) else none
  | _, _ => none

/-- The type there. -/
def Ty.tyAt : Ty → List Nat → Option Ty
  | .prod a b, p => match p with
    | [] => some (.prod a b)
    | i :: q => match i with
      | 0 => a.tyAt q
      | j + 1 => b.tyAt (j :: q)
  | .arr n k, p => match p with
    | [] => some (.arr n k)
    | _ :: q => match q with
      | [] => some (.int k)
      | _ => none
  | t, p => match p with
    | [] => some t
    | _ => none

theorem Ty.tyAt_of : ∀ {t : Ty} {p : List Nat} {o : Nat} {u : Ty}, t.at p = some (o, u) → t.tyAt p = some u
  | t, [], o, u, h => by
      cases t <;> simp [Ty.at] at h <;> simp [Ty.tyAt, h]
  | .prod a b, 0 :: p, o, u, h => by
      simp only [Ty.at] at h
      simpa only [Ty.tyAt] using Ty.tyAt_of h
  | .prod a b, (i + 1) :: p, o, u, h => by
      simp only [Ty.at] at h
      cases hb : b.at (i :: p) with
      | none => simp [hb] at h
      | some r =>
        simp [hb] at h
        obtain ⟨_, rfl⟩ := h
        simpa only [Ty.tyAt] using Ty.tyAt_of (o := r.1) (u := r.2) hb
  | .arr n k, [i], o, u, h => by
      simp only [Ty.at] at h
      split at h
      · simp at h; simp [Ty.tyAt, h.2]
      · simp at h
  | .arr n k, i :: j :: p, o, u, h => by simp [Ty.at] at h
  | .unit, _ :: _, o, u, h => by simp [Ty.at] at h
  | .int _, _ :: _, o, u, h => by simp [Ty.at] at h
  | .bool, _ :: _, o, u, h => by simp [Ty.at] at h
  | .str, _ :: _, o, u, h => by simp [Ty.at] at h
  | .sl _ _, _ :: _, o, u, h => by simp [Ty.at] at h
  | .opq, _ :: _, o, u, h => by simp [Ty.at] at h
  | .ifc, _ :: _, o, u, h => by simp [Ty.at] at h

section
variable (R : Nat → Nat → Prop) (w : World)

/-- The cells of memory from block b, offset o on are these, and will stay. -/
def Mem (b o : Nat) (es : List Value) : Prop := ∀ j u, es[j]? = some u → R b (o + j) ∧ w.cell? ⟨b, o + j, none⟩ = some u

def RepL {α : Type} (r : α → List Value → Prop) : List α → List Value → Prop
  | [], cs => cs = []
  | x :: l, cs => ∃ c1 c2, cs = c1 ++ c2 ∧ r x c1 ∧ RepL r l c2

def RepA (n : Nat) (k : IntKind) (l : List Int) (cs : List Value) : Prop := l.length = n ∧ (∀ x ∈ l, okInt k x) ∧ cs = l.map (.int k)

/-- These cells hold that data. -/
def Rep : (t : Ty) → t.den → List Value → Prop
  | .unit, _, cs => cs = []
  | .int k, n, cs => cs = [.int k n] ∧ okInt k n
  | .bool, b, cs => cs = [.bool b]
  | .str, s, cs => cs = [.string s] ∧ s.size ≤ maxLen
  | .arr n k, l, cs => RepA n k l cs
  | .sl _ t, l, cs => (l : List t.den).length ≤ maxLen ∧ ∃ ad r, cs = [.slice ad (l : List t.den).length ((l : List t.den).length + r)] ∧
      ((l : List t.den) ≠ [] → ∃ b o es, ad = some ⟨b, o, none⟩ ∧ RepL (Rep t) l es ∧ Mem R w b o es)
  | .prod a b, x, cs => ∃ c1 c2, cs = c1 ++ c2 ∧ Rep a x.1 c1 ∧ Rep b x.2 c2
  | .opq, x, _ => nomatch x
  | .ifc, x, _ => nomatch x

end

structure Cx where
  ρ : Nat → Ref
  R : Nat → Nat → Prop
  w : World
  /-- The blocks that count as new. -/
  N : Nat → Prop

/-- What stays; with `f`, and is new. -/
def Cx.Rf (c : Cx) (f : Bool) (b o : Nat) : Prop := c.R b o ∧ (f = true → c.N b)

def RefPtr (r : Ref) (p : List Nat) (x : Value) : Prop :=
  match r with
  | .none => False
  | .dead => ∃ a, x = .pointer (some a)
  | .var b t => ∃ o u, t.at p = some (o, u) ∧ x = .pointer (some ⟨b, o, none⟩)
  | .arr (some b) t len _ | .frz (some b) t len _ => ∃ i q o u, p = i :: q ∧ i < len ∧ t.at q = some (o, u) ∧ x = .pointer (some ⟨b, i * t.size + o, none⟩)
  | .arr Option.none _ _ _ | .frz Option.none _ _ _ => False
  | .iter b => p = [] ∧ x = .pointer (some ⟨b, 0, none⟩)

def RefOwn (r : Ref) (x : Value) : Prop :=
  match r with
  | .dead => ∃ a n m, x = .slice a n m
  | .arr (some b) _ len cap | .frz (some b) _ len cap => x = .slice (some ⟨b, 0, none⟩) len cap
  | .arr Option.none _ _ _ | .frz Option.none _ _ _ => ∃ ad, x = .slice ad 0 0
  | _ => False

def RefVsl (r : Ref) (p : List Nat) (lo hi : Nat) (x : Value) : Prop :=
  match r with
  | .dead => ∃ a n m, x = .slice a n m
  | .var b t => ∃ o n k ad cap, t.at p = some (o, .arr n k) ∧ lo ≤ hi ∧ hi ≤ n ∧ x = .slice ad (hi - lo) (hi - lo + cap) ∧ (lo < hi → ad = some ⟨b, o + lo, none⟩)
  | _ => False

def RefVap (r : Ref) (p : List Nat) (lo n : Nat) (x : Value) : Prop :=
  match r with
  | .dead => ∃ a, x = .pointer (some a)
  | .var b t => ∃ o N k, t.at p = some (o, .arr N k) ∧ lo + n ≤ N ∧ x = .pointer (some ⟨b, o + lo, none⟩)
  | .arr (some b) t len _ | .frz (some b) t len _ => ∃ k, p = [] ∧ t = .int k ∧ lo + n ≤ len ∧ x = .pointer (some ⟨b, lo, none⟩)
  | _ => False

mutual
/-- These cells hold that value. -/
def CR (c : Cx) : V → List Value → Prop
  | .int k n, cs => cs = [.int k n] ∧ okInt k n
  | .bool b, cs => cs = [.bool b]
  | .str s, cs => cs = [.string s] ∧ s.size ≤ maxLen
  | .arr n k l, cs => RepA n k l cs
  | .sl f t l, cs => Rep (c.Rf f) c.w (.sl .ro t) l cs
  | .nils, cs => cs = [.slice Option.none 0 0]
  | .own m, cs => ∃ x, cs = [x] ∧ RefOwn (c.ρ m) x
  | .node vs, cs => CRs c vs cs
  | .ptr m p, cs => ∃ x, cs = [x] ∧ RefPtr (c.ρ m) p x
  | .eptr f t x, cs => ∃ b o es, cs = [.pointer (some ⟨b, o, none⟩)] ∧ Rep (c.Rf f) c.w t x es ∧ Mem (c.Rf f) c.w b o es
  | .vsl m p lo hi, cs => ∃ x, cs = [x] ∧ RefVsl (c.ρ m) p lo hi x
  | .vap m p lo n, cs => ∃ x, cs = [x] ∧ RefVap (c.ρ m) p lo n x
  | .nilp, cs => cs = [.pointer none]
  | .iface T v, cs => ∃ x, cs = [.iface T x] ∧ TRi c v x
  | .nilif, cs => cs = [.nilIface]
  | .fn f, cs => cs = [.func (.func f) #[] #[]]
  | _, _ => False
def CRs (c : Cx) : List V → List Value → Prop
  | [], cs => cs = []
  | v :: vs, cs => ∃ c1 c2, cs = c1 ++ c2 ∧ CR c v c1 ∧ CRs c vs c2
/-- A value as one datum: structs and arrays in one. -/
def TRi (c : Cx) : V → Value → Prop
  | .node vs, x => ∃ cs : Array Value, x = .agg cs ∧ CRs c vs cs.toList
  | .arr n k l, x => l.length = n ∧ (∀ y ∈ l, okInt k y) ∧ x = .agg (l.map (.int k)).toArray
  | .int k n, x => x = .int k n ∧ okInt k n
  | .bool b, x => x = .bool b
  | .str s, x => x = .string s ∧ s.size ≤ maxLen
  | .sl f t l, x => Rep (c.Rf f) c.w (.sl .ro t) l [x]
  | .nils, x => x = .slice Option.none 0 0
  | _, _ => False
end

/-- What a temporary holds. -/
def TR1 (c : Cx) (v : V) (x : Value) : Prop :=
  match v with
  | .node vs => ∃ cs : Array Value, x = .agg cs ∧ CRs c vs cs.toList
  | .arr n k l => ∃ cs : Array Value, x = .agg cs ∧ CR c (.arr n k l) cs.toList
  | v => CR c v [x]

def TRt (c : Cx) : List V → List Value → Prop
  | [], [] => True
  | v :: vs, x :: xs => (v = .undef ∨ TR1 c v x) ∧ TRt c vs xs
  | _, _ => False

def TR (c : Cx) (v : V) (x : Value) : Prop :=
  match v with
  | .undef => True
  | .skip => x = Go.undef
  | .tup vs => ∃ xs : Array Value, x = .tuple xs ∧ TRt c vs xs.toList
  | v => TR1 c v x

/-- Is this a value of a variable of this type? -/
def conf : Ty → V → Bool
  | .unit, .node [] => true
  | .int k, .int k' _ => k' = k
  | .bool, .bool _ => true
  | .str, .str _ => true
  | .arr n k, .arr n' k' _ => n' = n ∧ k' = k
  | .sl _ t, .sl _ t' _ => t' = t
  | .sl _ _, .nils => true
  | .sl _ _, .own _ => true
  | .sl _ _, .vsl _ _ _ _ => true
  | .prod a b, .node (v :: vs) => conf a v && conf b (.node vs)
  | .opq, .ptr _ _ => true
  | .opq, .eptr _ _ _ => true
  | .opq, .nilp => true
  | .ifc, .nilif => true
  | .ifc, .iface _ _ => true
  | _, _ => false

def ObjR (c : Cx) (v : V) (r : Ref) : Prop :=
  match v, r with
  | .undef, .none => True
  | .dead, .dead => True
  | .obj t v, .var b t' => t' = t ∧ t.good = true ∧ conf t v = true ∧ ∃ cells e, c.w.heap[b]? = some (.cells cells e (0, 0)) ∧ CR c v cells.toList
  | .arrc _ t l, .arr Option.none t' len cap => t' = t ∧ t.good = true ∧ 0 < t.size ∧ l = [] ∧ len = 0 ∧ cap = 0
  | .arrc f t l, .arr (some b) t' len cap => t' = t ∧ t.good = true ∧ 0 < t.size ∧ len = l.length ∧ len ≤ cap ∧ cap ≤ maxLen ∧ (f = true → c.N b) ∧
      ∃ cells e, c.w.heap[b]? = some (.cells cells e (0, 0)) ∧ cells.size = cap * t.size ∧ RepL (Rep (c.Rf f) c.w t) l (cells.toList.take (len * t.size))
  | .frzc f t l, .frz b t' len cap => t' = t ∧ t.good = true ∧ 0 < t.size ∧ len = l.length ∧ ∀ x, RefOwn (.frz b t' len cap) x → Rep (c.Rf f) c.w (.sl .ro t) l [x]
  | .iter s pos, .iter b => s.size ≤ maxLen ∧ c.w.heap[b]? = some (.stringIter s pos)
  | _, _ => False

inductive Loc where
  | tmp (t : Nat)
  | obj (m : Nat)
  deriving DecidableEq

abbrev St := Loc → V

/-- From here on: what parameters' pointers lead to. -/
def parName : Nat := 500000

/-- The world holds what a state's names stand for. `Mu`: the blocks that may be written. -/
structure ObjsR (Mu : Nat → Prop) (S : St) (c : Cx) : Prop where
  obj : ∀ m, ObjR c (S (.obj m)) (c.ρ m)
  apart : ∀ m n b, (c.ρ m).blk = some b → (c.ρ n).blk = some b → m = n
  free : ∀ m b, (c.ρ m).blk = some b → Mu b ∧ ∀ o, ¬ c.R b o
  new : ∀ m b t, c.ρ m = .var b t → m < parName → c.N b
  base : ∀ b, c.w.heap.size ≤ b → c.N b
  rlt : ∀ b o, c.R b o → b < c.w.heap.size

/-- A frame and the world hold a state. -/
structure Rel (Mu : Nat → Prop) (nt : Nat) (S : St) (c : Cx) (a : Act) : Prop where
  size : a.tmps.size = nt
  defers : a.defers = []
  tmp : ∀ t, TR c (S (.tmp t)) (a.tmps.getD t undef)
  objs : ObjsR Mu S c

def Froze (r r' : Ref) : Prop := ∃ b t len cap, r = .arr b t len cap ∧ r' = .frz b t len cap

/-- From one context to a later one. -/
structure Later (c c' : Cx) : Prop where
  base : c'.N = c.N
  ref : ∀ m, c.ρ m ≠ .none → c'.ρ m = .dead ∨ c'.ρ m = c.ρ m ∨ Froze (c.ρ m) (c'.ρ m)
  more : ∀ b o, c.R b o → c'.R b o
  mem : ∀ b o u, c.R b o → c.w.cell? ⟨b, o, none⟩ = some u → c'.w.cell? ⟨b, o, none⟩ = some u

theorem Later.refl (c : Cx) : Later c c := ⟨rfl, fun _ _ => .inr (.inl rfl), fun _ _ h => h, fun _ _ _ _ h => h⟩
theorem Later.trans {a b c : Cx} (h : Later a b) (k : Later b c) : Later a c := by
  refine ⟨k.base.trans h.base, fun m hm => ?_, fun b o h1 => k.more _ _ (h.more _ _ h1), fun b o u h1 h2 => k.mem _ _ _ (h.more _ _ h1) (h.mem _ _ _ h1 h2)⟩
  rcases h.ref m hm with h1 | h1 | h1
  · rcases k.ref m (by simp [h1]) with h2 | h2 | ⟨_, _, _, _, h2, _⟩
    · exact .inl h2
    · exact .inl (h2.trans h1)
    · rw [h1] at h2; cases h2
  · rcases k.ref m (by rw [h1]; exact hm) with h2 | h2 | h2
    · exact .inl h2
    · exact .inr (.inl (h2.trans h1))
    · exact .inr (.inr (h1 ▸ h2))
  · obtain ⟨b', t', n', c', h3, h4⟩ := h1
    rcases k.ref m (by simp [h4]) with h2 | h2 | ⟨_, _, _, _, h2, _⟩
    · exact .inl h2
    · exact .inr (.inr ⟨b', t', n', c', h3, h2.trans h4⟩)
    · rw [h4] at h2; cases h2

theorem Later.moref {c c' : Cx} (h : Later c c') (f : Bool) : ∀ b o, c.Rf f b o → c'.Rf f b o :=
  fun _ _ hr => ⟨h.more _ _ hr.1, fun e => by rw [h.base]; exact hr.2 e⟩
theorem Later.memf {c c' : Cx} (h : Later c c') (f : Bool) : ∀ b o u, c.Rf f b o → c.w.cell? ⟨b, o, none⟩ = some u → c'.w.cell? ⟨b, o, none⟩ = some u :=
  fun _ _ _ hr hc => h.mem _ _ _ hr.1 hc

theorem Mem.later {R R' : Nat → Nat → Prop} {w w' : World} {b o : Nat} {es : List Value} (h : Mem R w b o es)
    (hR : ∀ b o, R b o → R' b o) (hm : ∀ b o u, R b o → w.cell? ⟨b, o, none⟩ = some u → w'.cell? ⟨b, o, none⟩ = some u) : Mem R' w' b o es :=
  fun j u hj => ⟨hR _ _ (h j u hj).1, hm _ _ _ (h j u hj).1 (h j u hj).2⟩

theorem RepL.mono {α : Type} {r r' : α → List Value → Prop} (h : ∀ x cs, r x cs → r' x cs) : ∀ {l : List α} {cs : List Value}, RepL r l cs → RepL r' l cs
  | [], _, hl => hl
  | _ :: _, _, ⟨c1, c2, e, h1, h2⟩ => ⟨c1, c2, e, h _ _ h1, RepL.mono h h2⟩

theorem Rep.later {R R' : Nat → Nat → Prop} {w w' : World}
    (hR : ∀ b o, R b o → R' b o) (hm : ∀ b o u, R b o → w.cell? ⟨b, o, none⟩ = some u → w'.cell? ⟨b, o, none⟩ = some u) :
    ∀ (t : Ty) (x : t.den) (cs : List Value), Rep R w t x cs → Rep R' w' t x cs
  | .unit, _, _, h => h
  | .int _, _, _, h => h
  | .bool, _, _, h => h
  | .str, _, _, h => h
  | .arr _ _, _, _, h => h
  | .sl _ t, l, cs, ⟨h0, ad, cap, e, h⟩ => ⟨h0, ad, cap, e, fun hl => by
      obtain ⟨b, o, es, h1, h2, h3⟩ := h hl
      exact ⟨b, o, es, h1, h2.mono (Rep.later hR hm t), h3.later hR hm⟩⟩
  | .prod a b, x, cs, ⟨c1, c2, e, h1, h2⟩ => ⟨c1, c2, e, Rep.later hR hm a _ _ h1, Rep.later hR hm b _ _ h2⟩
  | .opq, x, _, _ => nomatch x
  | .ifc, x, _, _ => nomatch x

theorem RefPtr.later {r r' : Ref} {p : List Nat} {x : Value} (h : RefPtr r p x) (hr : r ≠ .none → r' = .dead ∨ r' = r ∨ Froze r r') : RefPtr r' p x := by
  have hn : r ≠ .none := by rintro rfl; exact h
  rcases hr hn with rfl | rfl | ⟨b, t, len, cap, rfl, rfl⟩
  · cases r with
    | none => exact (hn rfl).elim
    | dead => exact h
    | var b t => obtain ⟨o, u, _, e⟩ := h; exact ⟨_, e⟩
    | arr b t n m => cases b with
      | none => exact h.elim
      | some b => obtain ⟨_, _, _, _, _, _, _, e⟩ := h; exact ⟨_, e⟩
    | frz b t n m => cases b with
      | none => exact h.elim
      | some b => obtain ⟨_, _, _, _, _, _, _, e⟩ := h; exact ⟨_, e⟩
    | iter b => exact ⟨_, h.2⟩
  · exact h
  · cases b <;> exact h
theorem RefOwn.later {r r' : Ref} {x : Value} (h : RefOwn r x) (hr : r ≠ .none → r' = .dead ∨ r' = r ∨ Froze r r') : RefOwn r' x := by
  have hn : r ≠ .none := by rintro rfl; exact h
  rcases hr hn with rfl | rfl | ⟨b, t, len, cap, rfl, rfl⟩
  · cases r with
    | none => exact (hn rfl).elim
    | dead => exact h
    | var b t => exact h.elim
    | arr b t n m => cases b with
      | none => obtain ⟨ad, h⟩ := h; exact ⟨_, _, _, h⟩
      | some b => exact ⟨_, _, _, h⟩
    | frz b t n m => cases b with
      | none => obtain ⟨ad, h⟩ := h; exact ⟨_, _, _, h⟩
      | some b => exact ⟨_, _, _, h⟩
    | iter b => exact h.elim
  · exact h
  · cases b <;> exact h
theorem RefVsl.later {r r' : Ref} {p : List Nat} {lo hi : Nat} {x : Value} (h : RefVsl r p lo hi x) (hr : r ≠ .none → r' = .dead ∨ r' = r ∨ Froze r r') : RefVsl r' p lo hi x := by
  have hn : r ≠ .none := by rintro rfl; exact h
  rcases hr hn with rfl | rfl | ⟨b, t, len, cap, rfl, rfl⟩
  · cases r with
    | dead => exact h
    | var b t => obtain ⟨_, _, _, _, _, _, _, _, e, _⟩ := h; exact ⟨_, _, _, e⟩
    | _ => exact h.elim
  · exact h
  · cases b <;> exact h

theorem RefVap.later {r r' : Ref} {p : List Nat} {lo n : Nat} {x : Value} (h : RefVap r p lo n x) (hr : r ≠ .none → r' = .dead ∨ r' = r ∨ Froze r r') : RefVap r' p lo n x := by
  have hn : r ≠ .none := by rintro rfl; exact h
  rcases hr hn with rfl | rfl | ⟨b, t, len, cap, rfl, rfl⟩
  · cases r with
    | none => exact (hn rfl).elim
    | dead => exact h
    | var b t => obtain ⟨_, _, _, _, _, e⟩ := h; exact ⟨_, e⟩
    | arr b t n m => cases b with
      | none => exact h.elim
      | some b => obtain ⟨_, _, _, _, e⟩ := h; exact ⟨_, e⟩
    | frz b t n m => cases b with
      | none => exact h.elim
      | some b => obtain ⟨_, _, _, _, e⟩ := h; exact ⟨_, e⟩
    | iter b => exact h.elim
  · exact h
  · cases b <;> exact h

mutual
theorem CR.later {c c' : Cx} (hl : Later c c') : ∀ (v : V) (cs : List Value), CR c v cs → CR c' v cs
  | .int _ _, _, h => by simpa [CR] using h
  | .bool _, _, h => by simpa [CR] using h
  | .str _, _, h => by simpa [CR] using h
  | .arr _ _ _, _, h => by simpa [CR] using h
  | .sl f t l, cs, h => by simp only [CR] at h ⊢; exact Rep.later (hl.moref f) (hl.memf f) _ _ _ h
  | .nils, _, h => by simpa [CR] using h
  | .own m, cs, h => by
      simp only [CR] at h ⊢
      obtain ⟨x, e, h⟩ := h
      exact ⟨x, e, h.later (hl.ref m)⟩
  | .node vs, cs, h => by simp only [CR] at h ⊢; exact CRs.later hl vs cs h
  | .ptr m p, cs, h => by
      simp only [CR] at h ⊢
      obtain ⟨x, e, h⟩ := h
      exact ⟨x, e, h.later (hl.ref m)⟩
  | .eptr f t x, cs, h => by
      simp only [CR] at h ⊢
      obtain ⟨b, o, es, e, h1, h2⟩ := h
      exact ⟨b, o, es, e, Rep.later (hl.moref f) (hl.memf f) _ _ _ h1, h2.later (hl.moref f) (hl.memf f)⟩
  | .vsl m p lo hi, cs, h => by
      simp only [CR] at h ⊢
      obtain ⟨x, e, h⟩ := h
      exact ⟨x, e, h.later (hl.ref m)⟩
  | .vap m p lo n, cs, h => by
      simp only [CR] at h ⊢
      obtain ⟨x, e, h⟩ := h
      exact ⟨x, e, h.later (hl.ref m)⟩
  | .nilp, _, h => by simpa [CR] using h
  | .iface T v, cs, h => by
      simp only [CR] at h ⊢
      obtain ⟨x, e, h⟩ := h
      exact ⟨x, e, TRi.later hl v x h⟩
  | .nilif, _, h => by simpa [CR] using h
  | .fn _, _, h => by simpa [CR] using h
  | .undef, _, h => by simp [CR] at h
  | .skip, _, h => by simp [CR] at h
  | .tup _, _, h => by simp [CR] at h
  | .obj _ _, _, h => by simp [CR] at h
  | .arrc _ _ _, _, h => by simp [CR] at h
  | .frzc _ _ _, _, h => by simp [CR] at h
  | .iter _ _, _, h => by simp [CR] at h
  | .dead, _, h => by simp [CR] at h
theorem CRs.later {c c' : Cx} (hl : Later c c') : ∀ (vs : List V) (cs : List Value), CRs c vs cs → CRs c' vs cs
  | [], _, h => by simpa [CRs] using h
  | v :: vs, cs, h => by
      simp only [CRs] at h ⊢
      obtain ⟨c1, c2, e, h1, h2⟩ := h
      exact ⟨c1, c2, e, CR.later hl v c1 h1, CRs.later hl vs c2 h2⟩
theorem TRi.later {c c' : Cx} (hl : Later c c') : ∀ (v : V) (x : Value), TRi c v x → TRi c' v x
  | .node vs, x, h => by
      simp only [TRi] at h ⊢
      obtain ⟨cs, e, h⟩ := h
      exact ⟨cs, e, CRs.later hl vs _ h⟩
  | .arr _ _ _, _, h => by simpa [TRi] using h
  | .int _ _, _, h => by simpa [TRi] using h
  | .bool _, _, h => by simpa [TRi] using h
  | .str _, _, h => by simpa [TRi] using h
  | .sl f t l, x, h => by simp only [TRi] at h ⊢; exact Rep.later (hl.moref f) (hl.memf f) _ _ _ h
  | .nils, _, h => by simpa [TRi] using h
  | .own _, _, h => by simp [TRi] at h
  | .ptr _ _, _, h => by simp [TRi] at h
  | .eptr _ _ _, _, h => by simp [TRi] at h
  | .vsl _ _ _ _, _, h => by simp [TRi] at h
  | .nilp, _, h => by simp [TRi] at h
  | .iface _ _, _, h => by simp [TRi] at h
  | .nilif, _, h => by simp [TRi] at h
  | .fn _, _, h => by simp [TRi] at h
  | .undef, _, h => by simp [TRi] at h
  | .skip, _, h => by simp [TRi] at h
  | .vap _ _ _ _, _, h => by simp [TRi] at h
  | .tup _, _, h => by simp [TRi] at h
  | .obj _ _, _, h => by simp [TRi] at h
  | .arrc _ _ _, _, h => by simp [TRi] at h
  | .frzc _ _ _, _, h => by simp [TRi] at h
  | .iter _ _, _, h => by simp [TRi] at h
  | .dead, _, h => by simp [TRi] at h
end

theorem TR1.later {c c' : Cx} (hl : Later c c') {v : V} {x : Value} (h : TR1 c v x) : TR1 c' v x := by
  cases v
  case node => obtain ⟨cs, e, h⟩ := h; exact ⟨cs, e, CRs.later hl _ _ h⟩
  case arr => obtain ⟨cs, e, h⟩ := h; exact ⟨cs, e, CR.later hl _ _ h⟩
  all_goals exact CR.later hl _ _ h
theorem TRt.later {c c' : Cx} (hl : Later c c') : ∀ {vs : List V} {xs : List Value}, TRt c vs xs → TRt c' vs xs
  | [], [], h => h
  | _ :: _, _ :: _, h => ⟨h.1.imp id fun h => h.later hl, TRt.later hl h.2⟩
  | [], _ :: _, h => h.elim
  | _ :: _, [], h => h.elim
theorem TR.later {c c' : Cx} (hl : Later c c') {v : V} {x : Value} (h : TR c v x) : TR c' v x := by
  cases v
  case undef => trivial
  case skip => exact h
  case tup => obtain ⟨xs, e, h⟩ := h; exact ⟨xs, e, h.later hl⟩
  all_goals simp only [TR] at h ⊢; exact TR1.later hl h

end Go.Eng
