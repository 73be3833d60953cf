/- The plain state of layer 24, as the document has it: places in a row, in order; what each deed comes to. No program in sight. -/
import Derived.Test.YtaokmbmimogdgaaRows2
namespace Go.Proofs.Ytaokmbmimogdgaa

structure Mac where
  a : Int
  b : Int
  c : Int
  d : Int
  e : Int
  f : Int
  deriving DecidableEq

def Mac.cells (m : Mac) : List Value := [.int .u8 m.a, .int .u8 m.b, .int .u8 m.c, .int .u8 m.d, .int .u8 m.e, .int .u8 m.f]
def Mac.zero : Mac := ⟨0, 0, 0, 0, 0, 0⟩

/-- A place: known, or how often it was asked for; since when; what waits. -/
structure One where
  nic : Int
  nxt : Int
  known : Bool
  mac : Mac
  tries : Int
  since : Int
  waits : List (List Int)

/-- The five numbers of a configuration that the layer looks at. -/
structure Cf where
  cache : Int
  queue : Int
  age : Int
  retry : Int
  tries : Int

def before (n k n' k' : Int) : Bool := decide (n < n') || (n == n' && decide (k < k'))
def One.is (x : One) (n k : Int) : Bool := x.nic == n && x.nxt == k

def put (x : One) : List One → List One
  | [] => [x]
  | y :: r => if before x.nic x.nxt y.nic y.nxt then x :: y :: r else y :: put x r
def find (n k : Int) (l : List One) : Option Nat := l.findIdx? (fun y => y.is n k)
def findI (n k : Int) (l : List One) : Int := match find n k l with | some i => i | none => -1
def total : List One → Nat
  | [] => 0
  | x :: r => x.waits.length + total r

def clamp (x lo hi : Int) : Int := if x < lo then lo else if hi < x then hi else x
def addWait (b : List Int) (x : One) : One := { x with waits := x.waits ++ [b] }
def newAsk (now n k : Int) (b : List Int) : One := ⟨n, k, false, Mac.zero, 1, now, [b]⟩
def newKnown (now n k : Int) (m : Mac) : One := ⟨n, k, true, m, 0, now, []⟩

/-- What 'Want' answers, and the row behind it. -/
def want (c : Cf) (now : Int) (l : List One) (n k : Int) (b : List Int) : (Bool × Int) × List One :=
  match find n k l with
  | some i =>
    if (l[i]?.map (·.known)).getD false then ((false, 10), l)
    else if c.queue ≤ total l then ((false, 7), l)
    else ((false, 0), l.modify i (addWait b))
  | none =>
    if c.queue ≤ total l then ((false, 7), l)
    else if c.cache ≤ l.length then ((false, 7), l)
    else ((true, 0), put (newAsk now n k b) l)

/-- What 'Learn' answers, and the row behind it. -/
def learn (c : Cf) (now : Int) (l : List One) (n k : Int) (m : Mac) (add : Bool) : (List (List Int) × Bool) × List One :=
  match find n k l with
  | some i => (((l[i]?.map (·.waits)).getD [], true), put (newKnown now n k m) (l.eraseIdx i))
  | none =>
    if !add then (([], false), l)
    else if c.cache ≤ l.length then (([], false), l)
    else (([], true), put (newKnown now n k m) l)

/-- How long a place is left alone. -/
def waitOf (c : Cf) (x : One) : Int := if x.known then clamp c.age 1 4095 else clamp c.retry 1 4095
inductive Fate where
  | keep | ask | drop
  deriving DecidableEq
def fate (c : Cf) (now : Int) (x : One) : Fate :=
  if now - x.since < waitOf c x then .keep
  else if !x.known && decide (x.tries < c.tries) then .ask
  else .drop
def asked (now : Int) (x : One) : One := { x with tries := x.tries + 1, since := now }
/-- The row behind a tick, 'now' being the new tick. -/
def tickRow (c : Cf) (now : Int) : List One → List One
  | [] => []
  | x :: r => match fate c now x with
    | .keep => x :: tickRow c now r
    | .ask => asked now x :: tickRow c now r
    | .drop => tickRow c now r
def tickAsks (c : Cf) (now : Int) : List One → List (Int × Int)
  | [] => []
  | x :: r => match fate c now x with
    | .ask => (x.nic, x.nxt) :: tickAsks c now r
    | _ => tickAsks c now r
def tickLost (c : Cf) (now : Int) : List One → Nat
  | [] => 0
  | x :: r => match fate c now x with
    | .drop => x.waits.length + tickLost c now r
    | _ => tickLost c now r

/-! ### rows of rows of one length, as cells -/
theorem flatten_length {α : Type} {n : Nat} : ∀ (L : List (List α)), (∀ l ∈ L, l.length = n) → L.flatten.length = L.length * n
  | [], _ => by simp
  | a :: L, h => by
    have ih := flatten_length L (fun l hl => h l (by simp [hl]))
    simp only [List.flatten_cons, List.length_append, List.length_cons, ih, h a (by simp), Nat.add_mul, Nat.one_mul, Nat.add_comm]
theorem flatten_get {α : Type} {n : Nat} : ∀ (L : List (List α)), (∀ l ∈ L, l.length = n) → ∀ (k j : Nat) (l : List α), j < n → L[k]? = some l → L.flatten[k * n + j]? = l[j]?
  | [], _, k, j, l, _, h => by simp at h
  | a :: L, h, 0, j, l, hj, he => by
    simp only [List.getElem?_cons_zero, Option.some.injEq] at he
    subst he
    have ha := h a (by simp)
    rw [List.flatten_cons, Nat.zero_mul, Nat.zero_add, List.getElem?_append_left (by omega)]
  | a :: L, h, k + 1, j, l, hj, he => by
    have ha := h a (by simp)
    have ih := flatten_get L (fun l hl => h l (by simp [hl])) k j l hj (by simpa using he)
    rw [List.flatten_cons, List.getElem?_append_right (by rw [ha, Nat.add_mul]; omega), ← ih]
    congr 1
    rw [ha, Nat.add_mul]; omega
theorem flatten_set {α : Type} {n : Nat} (v : α) : ∀ (L : List (List α)), (∀ l ∈ L, l.length = n) → ∀ (k j : Nat) (l : List α), j < n → L[k]? = some l → L.flatten.set (k * n + j) v = (L.set k (l.set j v)).flatten
  | [], _, k, j, l, _, h => by simp at h
  | a :: L, h, 0, j, l, hj, he => by
    simp only [List.getElem?_cons_zero, Option.some.injEq] at he
    subst he
    have ha := h a (by simp)
    rw [List.flatten_cons, Nat.zero_mul, Nat.zero_add, List.set_append_left _ _ (by omega)]; simp
  | a :: L, h, k + 1, j, l, hj, he => by
    have ha := h a (by simp)
    have ih := flatten_set v L (fun l hl => h l (by simp [hl])) k j l hj (by simpa using he)
    rw [List.flatten_cons, List.set_append_right _ _ (by rw [ha, Nat.add_mul]; omega), List.set_cons_succ, List.flatten_cons, ← ih]
    congr 2
    rw [ha, Nat.add_mul]; omega

def oneCells (x : One) (u : Value) : List Value :=
  [.int .i64 x.nic, .int .u32 x.nxt, .bool x.known, .int .u8 x.mac.a, .int .u8 x.mac.b, .int .u8 x.mac.c, .int .u8 x.mac.d, .int .u8 x.mac.e, .int .u8 x.mac.f, .int .i64 x.tries, .int .i64 x.since, u]
def rowCells (l : List One) (ws : List Value) : List Value := (List.zipWith oneCells l ws).flatten
theorem zip_len (l : List One) (ws : List Value) : ∀ c ∈ List.zipWith oneCells l ws, c.length = 12 := by
  induction l generalizing ws with
  | nil => simp
  | cons x l ih =>
    cases ws with
    | nil => simp
    | cons u ws =>
      intro c hc
      simp only [List.zipWith_cons_cons, List.mem_cons] at hc
      rcases hc with rfl | hc
      · rfl
      · exact ih ws c hc
theorem rowCells_length {l : List One} {ws : List Value} (h : ws.length = l.length) : (rowCells l ws).length = l.length * 12 := by
  unfold rowCells
  rw [flatten_length _ (zip_len l ws)]; simp [h]
theorem rowCells_get {l : List One} {ws : List Value} {k j : Nat} {x : One} {u : Value} (hx : l[k]? = some x) (hu : ws[k]? = some u) (hj : j < 12) : (rowCells l ws)[k * 12 + j]? = (oneCells x u)[j]? :=
  flatten_get _ (zip_len l ws) k j _ hj (by simp [List.getElem?_zipWith, hx, hu])
theorem rowCells_append {l l' : List One} {ws ws' : List Value} (h : ws.length = l.length) : rowCells (l ++ l') (ws ++ ws') = rowCells l ws ++ rowCells l' ws' := by
  unfold rowCells
  rw [List.zipWith_append h.symm, List.flatten_append]
theorem oneCells_one (x : One) {u : Value} (hu : u.oneCell' = true) : ∀ v ∈ oneCells x u, v.oneCell' = true := by
  intro v hv
  simp only [oneCells, List.mem_cons, List.not_mem_nil, or_false] at hv
  rcases hv with rfl | rfl | rfl | rfl | rfl | rfl | rfl | rfl | rfl | rfl | rfl | rfl <;> first | rfl | exact hu

end Go.Proofs.Ytaokmbmimogdgaa
