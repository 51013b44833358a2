/- Part TxAO of the proofs about the benches of the accordion maker: see the last text of the claim for what is proved. -/
import Derived.Orders
import Derived.Test.YtggilmnhgjofiaaGreatTxAN
set_option linter.unusedVariables false
set_option linter.unusedSimpArgs false
set_option linter.unnecessarySimpa false
set_option linter.constructorNameAsVariable false

namespace Go.Abs
open Go
section
variable {A : Ar} {T : TT} {K : D -> Prop}
theorem Zcc {x : Option D} (h : opt x K) : ∃ d, K d /\ opt x (fun y => y = d) := by
 unfold opt at *; cases x <;> first | exact h.elim | exact ⟨_, h, rfl⟩
theorem Zrc {t : TypeId} {d : D} (h : Zly A T t K d) : ∃ y, K y /\ Zly A T t (fun x => x = y) d := by
 unfold Zly at h
 repeat' (split at h)
 all_goals first
  | exact h.elim
  | exact ⟨_, h, by simp_all [Zly]⟩
theorem Zug {op : UnOp} {d : D} (h : unA A op K d) : ∃ y, K y /\ unA A op (fun x => x = y) d := by
 unfold unA at h
 repeat' (split at h)
 all_goals first
  | exact h.elim
  | exact ⟨_, h, by simp_all [unA]⟩
  | exact ⟨_, h.2, by simp_all [unA]⟩
theorem Zpj {s t : TypeId} {d : D} (h : Zeq A T s t K d) : ∃ y, K y /\ Zeq A T s t (fun x => x = y) d := by
 unfold Zeq at h
 repeat' (split at h)
 all_goals first
  | exact h.elim
  | exact ⟨_, h, by simp_all [Zeq]⟩
theorem Zrd {t : TypeId} {f : Nat} {d : D} (h : Zlq A T t f K d) : ∃ y, K y /\ Zlq A T t f (fun x => x = y) d := by
 unfold Zlq Zer at h
 repeat' (split at h)
 all_goals first
  | exact h.elim
  | exact ⟨_, h, by simp_all [Zlq, Zer]⟩
theorem Zpk {agg : Bool} {off n : Nat} {cs : List D} (h : Zds agg off n cs K) : ∃ y, K y /\ Zds agg off n cs (fun x => x = y) := by
 unfold Zds at h ⊢
 split at h
 ·split at h
  ·rename_i hb; exact ⟨_, h, rfl⟩
  ·exact h.elim
 ·split at h
  ·rename_i x hx; exact ⟨_, h, rfl⟩
  ·exact h.elim
theorem Zmi {t : TypeId} {f : Nat} {d : D} (h : Zbe T t f K d) : ∃ y, K y /\ Zbe T t f (fun x => x = y) d := by
 unfold Zbe at h
 repeat' (split at h)
 all_goals first
  | exact h.elim
  | (obtain ⟨y, h1, h2⟩ := Zpk h; exact ⟨y, h1, by simp only [Zbe, *]⟩)
theorem Zre {t : TypeId} {l : Bool} {a b : D} (h : Zlr A T t l K a b) : ∃ y, K y /\ Zlr A T t l (fun x => x = y) a b := by
 unfold Zlr Zes at h
 repeat' (split at h)
 all_goals first
  | exact h.elim
  | exact h.2.elim
  | exact ⟨_, h.2, by simp_all [Zlr, Zes]⟩
theorem Need.det {x : Option D} (h : Need x K) : ∃ d, K d /\ Need x (fun y => y = d) := let ⟨d, h1, h2⟩ := h.out; ⟨d, h2, ⟨d, h1, rfl⟩⟩
theorem Zmj {t : TypeId} {a b : D} (h : Z96 A T t K a b) : ∃ y, K y /\ Z96 A T t (fun x => x = y) a b := by
 unfold Z96 at h
 repeat' (split at h)
 all_goals first
  | exact h.elim
  | exact ⟨_, h.2, by simp_all [Z96]⟩
  | (obtain ⟨d, h1, h2⟩ := h.2.det; exact ⟨d, h1, by simp_all [Z96]⟩)
theorem Zrf {i : Nat} {d : D} (h : Zp6 i K d) : ∃ y, K y /\ Zp6 i (fun x => x = y) d := by
 unfold Zp6 at h
 split at h
 ·obtain ⟨d, h1, h2⟩ := Zcc h; exact ⟨d, h1, h2⟩
 ·exact h.elim
theorem Zpl {c a b : Option D} (h : Zjo K c a b) : ∃ y, K y /\ Zjo (fun x => x = y) c a b := by
 unfold Zjo at h
 split at h
 ·obtain ⟨d, h1, h2⟩ := Zcc h; exact ⟨d, h1, h2⟩
 ·obtain ⟨d, h1, h2⟩ := Zcc h; exact ⟨d, h1, h2⟩
 ·exact h.elim
theorem Zmk {mx : Bool} {k : IntKind} : ∀ {l : List (Option D)} {x : Int}, mm A mx k x K l -> ∃ y, K y /\ mm A mx k x (fun z => z = y) l
 | [], x, h => ⟨_, h, rfl⟩
 | some (.v (.int k' y)) :: r, x, h => by
  simp only [mm] at h ⊢
  split at h
  ·rename_i e
   simp only [e, if_true]
   split at h
   ·obtain ⟨d, h1, h2⟩ := Zmk h; exact ⟨d, h1, by simpa [e] using h2⟩
   ·obtain ⟨d, h1, h2⟩ := Zmk h; exact ⟨d, h1, by simpa [e] using h2⟩
  ·exact h.elim
 | none :: r, x, h => h.elim
theorem Znz {mx : Bool} {l : List (Option D)} (h : mmA A mx K l) : ∃ y, K y /\ mmA A mx (fun x => x = y) l := by
 unfold mmA at h
 split at h
 ·obtain ⟨d, h1, h2⟩ := Zmk h; exact ⟨d, h1, h2⟩
 ·exact h.elim
theorem Zrg {fn : Fn} {first : Array Operand} {caps : List (Option D)} (h : Zlz K fn first caps) : ∃ y, K y /\ Zlz (fun x => x = y) fn first caps := by
 unfold Zlz at h
 split at h
 ·exact ⟨_, h, by simp_all [Zlz]⟩
 ·exact h.elim
theorem Zrh {t : TypeId} {d : D} (h : Zm0 T t K d) : ∃ y, K y /\ Zm0 T t (fun x => x = y) d := by
 unfold Zm0 at h
 repeat' (split at h)
 all_goals first
  | exact h.elim
  | exact ⟨_, h, by simp_all [Zm0]⟩
theorem Zri {t : TypeId} {lo hi : Option (Option D)} {d : D} (h : Zjp A T t lo hi K d) : ∃ y, K y /\ Zjp A T t lo hi (fun x => x = y) d := by
 unfold Zjp at h
 repeat' (split at h)
 all_goals first
  | exact h.elim
  | exact ⟨_, h, by simp_all [Zjp]⟩
  | exact ⟨_, h.2, by simp_all [Zjp]⟩
theorem Zrj {t : TypeId} {parts : List (Nat × Option D)} (h : Zm1 T t parts K) : ∃ y, K y /\ Zm1 T t parts (fun x => x = y) := by
 unfold Zm1 at h
 repeat' (split at h)
 all_goals first
  | exact h.elim
  | exact ⟨_, h, by simp_all [Zm1]⟩
theorem Zrk {t : TypeId} {ok : Bool} {d : D} (h : Zm2 T t ok K d) : ∃ y, K y /\ Zm2 T t ok (fun x => x = y) d := by
 unfold Zm2 at h
 repeat' (split at h)
 all_goals first
  | exact h.elim
  | exact ⟨_, h, by simp_all [Zm2]⟩
theorem Zpm {t : TypeId} {lo : Option Operand} {hi : Option (Option D)} {mx : Option D} {d : D} (h : Zeu T t lo hi mx K d) : ∃ y, K y /\ Zeu T t lo hi mx (fun x => x = y) d := by
 unfold Zeu at h
 repeat' (split at h)
 all_goals first
  | exact h.elim
  | exact ⟨_, h, by unfold Zeu; simp only [*]⟩
theorem Zik {ok : Bool} {d : D} {b : Bool} (h : okA ok K d b) : ∃ y, K y /\ okA ok (fun x => x = y) d b := by
 cases ok <;> exact ⟨_, h, rfl⟩
theorem Zrl {A : Ar} {H : List Blk} {t : TypeId} {ok : Bool} {key m : D} (h : Zea A T H t ok K key m) : ∃ y, K y /\ Zea A T H t ok (fun x => x = y) key m := by
 unfold Zea at h
 split at h
 ·split at h
  ·rename_i h1
   obtain ⟨l, g1, g2⟩ := h.out;obtain ⟨y, k1, k2⟩ := Zik g2;exact ⟨y, k1, by simp only [Zea, h1]; exact ⟨l, g1, k2⟩⟩
  ·exact h.elim
 ·split at h
  ·rename_i h1 h2
   split at h
   ·rename_i h3
    obtain ⟨l, g1, g2⟩ := h.out;obtain ⟨d, g3, g4⟩ := g2.out;obtain ⟨y, k1, k2⟩ := Zik g4;exact ⟨y, k1, by simp only [Zea, h1, h2, h3]; exact ⟨l, g1, ⟨d, g3, k2⟩⟩⟩
   ·exact h.elim
  ·rename_i h1 h2
   split at h
   ·rename_i h3
    obtain ⟨l, g1, g2⟩ := h.out;obtain ⟨d, g3, g4⟩ := g2.out;obtain ⟨y, k1, k2⟩ := Zik g4;exact ⟨y, k1, by simp only [Zea, h1, h2, h3]; exact ⟨l, g1, ⟨d, g3, k2⟩⟩⟩
   ·exact h.elim
  ·exact h.elim
 ·exact h.elim
def Zrm : Option D -> Bool
 | some (.v (.slice none 0 0)) => false
 | _ => true
theorem Zrn {op : BinOp} {k : IntKind} {x y : Int} (h : Zi6 A op k x y K) : ∃ z, K z /\ Zi6 A op k x y (fun w => w = z) := by
 unfold Zi6 at h
 repeat' (split at h)
 all_goals first
  | exact h.elim
  | exact ⟨_, h, by simp_all [Zi6]⟩
  | exact ⟨_, h.2, by simp_all [Zi6]⟩
  | exact ⟨_, h.2.2, by simp_all [Zi6]⟩
theorem Zro {op : BinOp} {x y : ByteArray} (h : Zjk A op x y K) : ∃ z, K z /\ Zjk A op x y (fun w => w = z) := by
 unfold Zjk at h
 repeat' (split at h)
 all_goals first
  | exact h.elim
  | exact ⟨_, h, by simp_all [Zjk]⟩
  | exact ⟨_, h.2, by simp_all [Zjk]⟩
theorem Zo0 {op : BinOp} {b : Bool} (h : eqK op K b) : ∃ z, K z /\ eqK op (fun w => w = z) b := by
 unfold eqK at h
 repeat' (split at h)
 all_goals first
  | exact h.elim
  | exact ⟨_, h, by simp_all [eqK]⟩
theorem Zrp {op : BinOp} {t : TypeId} {a b : D} (hb : Zrm (some b) = true) (h : Zbd A T op t K a b) : ∃ y, K y /\ Zbd A T op t (fun x => x = y) a b := by
 unfold Zbd at h
 split at h
 ·split at h
  ·exact ⟨_, h.2, by simp_all [Zbd]⟩
  ·exact ⟨_, h.2, by simp_all [Zbd]⟩
  ·split at h
   ·rename_i e; subst e
    obtain ⟨z, h1, h2⟩ := Zrn h;exact ⟨z, h1, by simp_all [Zbd]⟩
   ·exact h.elim
 ·obtain ⟨z, h1, h2⟩ := Zro h;exact ⟨z, h1, by simpa only [Zbd] using h2⟩
 ·repeat' (split at h)
  all_goals first
   | exact h.elim
   | exact ⟨_, h, by simp_all [Zbd]⟩
 ·cases hb
 ·cases hb
 ·cases hb
 ·repeat' (split at h)
  all_goals first
   | exact h.elim
   | (obtain ⟨z, h1, h2⟩ := Zo0 h; exact ⟨z, h1, by simp_all [Zbd]⟩)
 ·split at h
  ·rename_i e he
   split at h
   ·rename_i n hf ha
    obtain ⟨a, b, rfl, rfl, la, lb, hk⟩ := h.out
    split at hk
    ·exact ⟨_, hk, by simp only [Zbd, he, hf, ha]; exact ⟨a, b, rfl, rfl, la, lb, rfl⟩⟩
    ·exact ⟨_, hk, by simp only [Zbd, he, hf, ha]; exact ⟨a, b, rfl, rfl, la, lb, rfl⟩⟩
    ·exact hk.elim
   ·exact h.elim
  ·exact h.elim
 ·exact h.elim
theorem Zcd {agg : Bool} {n off : Nat} {d : D} (h : ldD A agg n off K d) : ∃ y, K y /\ ldD A agg n off (fun x => x = y) d := by
 unfold ldD at h
 split at h
 ·split at h
  ·split at h
   ·rename_i hb; exact ⟨_, h, by simp only [ldD, hb]⟩
   ·exact h.elim
  ·split at h
   ·rename_i x hx; exact ⟨_, h, by simp only [ldD, hx]⟩
   ·exact h.elim
 ·split at h
  ·split at h
   ·exact ⟨_, h.2, h.1, rfl⟩
   ·exact h.elim
  ·obtain ⟨y, h1, h2⟩ := h.det; exact ⟨y, h1, h2⟩
 ·exact h.elim
 ·rename_i h1 h2 h3
  split at h
  ·exact h.elim
  ·split at h
   ·exact ⟨_, h, by
     cases d <;> first | exact rfl | exact absurd rfl (h1 _) | exact absurd rfl (h2 _) | exact absurd rfl h3⟩
   ·exact h.elim
theorem Zuh {agg : Bool} {off : Nat} {d : D} (h : ldS A agg off K d) : ∃ y, K y /\ ldS A agg off (fun x => x = y) d := by
 unfold ldS at h
 split at h
 ·split at h
  ·exact h.elim
  ·obtain ⟨y, h1, h2⟩ := h.det; exact ⟨y, h1, h2⟩
 ·split at h
  ·exact h.elim
  ·obtain ⟨y, h1, h2⟩ := h.det; exact ⟨y, h1, h2⟩
 ·exact h.elim
theorem Zui {H : List Blk} {agg : Bool} {n : Nat} {d : D} (h : ldP A H agg n K d) : ∃ y, K y /\ ldP A H agg n (fun x => x = y) d := by
 unfold ldP at h
 split at h
 ·split at h
  ·rename_i hb; obtain ⟨y, h1, h2⟩ := Zcd h; exact ⟨y, h1, by simp only [ldP, hb]; exact h2⟩
  ·exact h.elim
 ·split at h
  ·rename_i hb; obtain ⟨y, h1, h2⟩ := Zuh h; exact ⟨y, h1, by simp only [ldP, hb]; exact h2⟩
  ·exact h.elim
 ·split at h
  ·rename_i hb
   split at h
   ·rename_i hs
    obtain ⟨e, h1, h2⟩ := h.out;obtain ⟨y, h3, h4⟩ := Zcd h2;exact ⟨y, h3, by simp only [ldP, hb, hs]; exact ⟨e, h1, h4⟩⟩
   ·exact h.elim
  ·rename_i hb
   split at h
   ·rename_i hs
    obtain ⟨e, h1, h2⟩ := h.out;obtain ⟨y, h3, h4⟩ := Zcd h2;exact ⟨y, h3, by simp only [ldP, hb, hs]; exact ⟨e, h1, h4⟩⟩
   ·exact h.elim
  ·exact h.elim
 ·obtain ⟨e, h1, h2⟩ := h.out;obtain ⟨y, h3, h4⟩ := Zcd h2;exact ⟨y, h3, ⟨e, h1, h4⟩⟩
 ·obtain ⟨y, h3, h4⟩ := Zcd h;exact ⟨y, h3, h4⟩
 ·exact h.elim
def Zo1 (s : St) : Op -> Bool
 | .binOp _ _ _ y _ => Zrm (evo s.env y)
 | _ => true
theorem Zk4 {s : St} {op : Op} (hd : Zo1 s op = true) (h : Z1q A T s K op) : ∃ d, K d /\ Z1q A T s (fun x => x = d) op := by
 cases op <;> try exact h.elim
 case move x => exact Zcc h
 case assign x => exact Zcc h
 case pick c a b => exact Zpl h
 case load t a =>
  simp only [Z1q] at h
  split at h
  ·rename_i h1 h2; obtain ⟨y, g1, g2⟩ := Zui h; exact ⟨y, g1, by simp only [Z1q, h1, h2]; exact g2⟩
  ·exact h.elim
 case nilCheck x =>
  simp only [Z1q] at h
  split at h
  ·rename_i h1
   split at h
   ·rename_i h2; exact ⟨_, h, by simp only [Z1q, h1, h2]⟩
   ·exact h.elim
  ·exact h.elim
 case binOp op t x y yt =>
  simp only [Z1q] at h
  split at h
  ·rename_i h1 h2
   split at h
   ·rename_i e hl he
    split at h
    ·rename_i hkc
     obtain ⟨z, g1, g2⟩ := Zo0 h;exact ⟨z, g1, by simp only [Z1q, h1, h2, hl, he, hkc]; exact g2⟩
    ·exact h.elim
   ·exact h.elim
  ·rename_i hno h1 h2
   simp only [Zo1, h2] at hd;obtain ⟨z, g1, g2⟩ := Zrp hd h;refine ⟨z, g1, ?_⟩;simp only [Z1q];rw [h1, h2]
   split
   ·rename_i e1 e2; cases e1; cases e2; exact (hno rfl rfl).elim
   ·rename_i e1 e2; cases e1; cases e2; exact g2
   ·rename_i e1; exact (e1 _ _ rfl rfl).elim
  ·exact h.elim
 case lookup t x i ok =>
  simp only [Z1q] at h
  split at h
  ·rename_i h1 h2; obtain ⟨y, g1, g2⟩ := Zrl h; exact ⟨y, g1, by simp only [Z1q, h1, h2]; exact g2⟩
  ·exact h.elim
 case unOp op t x =>
  simp only [Z1q] at h
  split at h
  ·rename_i h1; obtain ⟨y, g1, g2⟩ := Zug h; exact ⟨y, g1, by simp only [Z1q, h1]; exact g2⟩
  ·exact h.elim
 case convert a b x =>
  simp only [Z1q] at h
  split at h
  ·rename_i h1; obtain ⟨y, g1, g2⟩ := Zpj h; exact ⟨y, g1, by simp only [Z1q, h1]; exact g2⟩
  ·exact h.elim
 case makeInterface t x =>
  simp only [Z1q] at h
  split at h
  ·rename_i h1; obtain ⟨y, g1, g2⟩ := Zrh h; exact ⟨y, g1, by simp only [Z1q, h1]; exact g2⟩
  ·exact h.elim
 case makeFunc fn first caps => exact Zrg h
 case build t parts => exact Zrj h
 case fieldAddr t x f =>
  simp only [Z1q] at h
  split at h
  ·rename_i h1; obtain ⟨y, g1, g2⟩ := Zrd h; exact ⟨y, g1, by simp only [Z1q, h1]; exact g2⟩
  ·exact h.elim
 case field t x f =>
  simp only [Z1q] at h
  split at h
  ·rename_i h1; obtain ⟨y, g1, g2⟩ := Zmi h; exact ⟨y, g1, by simp only [Z1q, h1]; exact g2⟩
  ·exact h.elim
 case indexAddr t x i =>
  simp only [Z1q] at h
  split at h
  ·rename_i h1 h2; obtain ⟨y, g1, g2⟩ := Zre h; exact ⟨y, g1, by simp only [Z1q, h1, h2]; exact g2⟩
  ·exact h.elim
 case index t x i =>
  simp only [Z1q] at h
  split at h
  ·rename_i h1 h2; obtain ⟨y, g1, g2⟩ := Zmj h; exact ⟨y, g1, by simp only [Z1q, h1, h2]; exact g2⟩
  ·exact h.elim
 case extract x i =>
  simp only [Z1q] at h
  split at h
  ·rename_i h1; obtain ⟨y, g1, g2⟩ := Zrf h; exact ⟨y, g1, by simp only [Z1q, h1]; exact g2⟩
  ·exact h.elim
 case slice t x lo hi mx =>
  cases mx with
  | some m =>
   simp only [Z1q] at h
   split at h
   ·rename_i h1; obtain ⟨y, g1, g2⟩ := Zpm h; exact ⟨y, g1, by simp only [Z1q, h1]; exact g2⟩
   ·exact h.elim
  | none =>
   simp only [Z1q] at h
   split at h
   ·rename_i h1; obtain ⟨y, g1, g2⟩ := Zri h; exact ⟨y, g1, by simp only [Z1q, h1]; exact g2⟩
   ·exact h.elim
 case typeAssert x a b ok =>
  simp only [Z1q] at h
  split at h
  ·rename_i h1; obtain ⟨y, g1, g2⟩ := Zrk h; exact ⟨y, g1, by simp only [Z1q, h1]; exact g2⟩
  ·exact h.elim
 case call c =>
  obtain ⟨callee, args, argTypes⟩ := c
  cases callee with
  | value f => exact h.elim
  | invoke r m => exact h.elim
  | builtin b =>
   cases b <;> try exact h.elim
   case len =>
    simp only [Z1q] at h
    split at h
    ·rename_i h1 h2
     split at h
     ·rename_i h3; obtain ⟨y, g1, g2⟩ := Zrc h; exact ⟨y, g1, by simp only [Z1q, h1, h2, h3]; exact g2⟩
     ·exact h.elim
    ·exact h.elim
   case max => exact Znz h
   case min => exact Znz h
end
end Go.Abs

namespace Go.Abs
open Go
def rE (env : List (Nat × D)) : List Nat -> List (Nat × D)
 | [] => []
 | t :: r => (match Z1c env t with | some d => (t, d) :: rE env r | none => rE env r)
theorem Zil {env : List (Nat × D)} : ∀ {ts : List Nat} {t : Nat} {d : D}, Z1c (rE env ts) t = some d -> Z1c env t = some d /\ t ∈ ts
 | [], t, d, h => by cases h
 | t0 :: r, t, d, h => by
  simp only [rE] at h
  split at h
  ·rename_i d0 hd0
   simp only [Z1c] at h
   split at h
   ·rename_i e; subst e; cases h; exact ⟨hd0, by simp⟩
   ·obtain ⟨h1, h2⟩ := Zil h; exact ⟨h1, by simp [h2]⟩
  ·obtain ⟨h1, h2⟩ := Zil h; exact ⟨h1, by simp [h2]⟩
theorem Zk5 {env env' : List (Nat × D)} : ∀ {ts : List Nat}, (∀ t ∈ ts, Z1c env' t = Z1c env t) -> rE env' ts = rE env ts
 | [], _ => rfl
 | t :: r, h => by
  have h1 := h t (by simp);have h2 := Zk5 (ts := r) (fun t ht => h t (by simp [ht]));simp only [rE, h1, h2]
def St.only (s : St) (ts : List Nat) : St := { s with env := rE s.env ts }
def ons (o : Oper) : List Nat := (o.after.toList.filter fun e => Region.binds .any e).map (·.on)
def Z9i (A : Ar) (T : TT) (ops : Array Oper) (s : St) (o : Oper) (K : D -> Prop) : Prop := Zh ops s o (fun s => Z1q A T s K o.op) (fun _ => K (.tup []))
inductive PK where
 | val (d : D)
 | alc (k : Nat) (x : Blk) (d : D)
def PK.d : PK -> D
 | .val d => d
 | .alc _ _ d => d
structure POk (A : Ar) (T : TT) (ops : Array Oper) (s : St) (u : Nat × PK) : Prop where
 out : ∃ o, ops[u.1]? = some o /\ Z36 s.nt o.dst = true /\ (∀ t, o.dst = some t -> Z1c s.env t = some u.2.d) /\ (match u.2 with
  | .val d => Z9i A T ops (s.only (o.looksAt ops)) o (fun x => x = d)
  | .alc k x d => Zh ops (s.only (o.looksAt ops)) o (fun s' => Z5g A T s' (fun y mk => y = x /\ mk k = d) o.op) (fun _ => False) /\ Z1m s.H k = some x /\ BFr x)
structure LooksOk (ops : Array Oper) (o : Oper) (pend : List (Nat × PK)) : Prop where
 out : ∀ u ∈ pend, ∀ o' t, ops[u.1]? = some o' -> o'.dst = some t -> t ∈ o.looksAt ops -> u.1 ∈ ons o
structure WritesOk (ops : Array Oper) (o : Oper) (pend : List (Nat × PK)) : Prop where
 out : ∀ u ∈ pend, ∀ o' t, ops[u.1]? = some o' -> o.dst = some t -> o'.dst ≠ some t /\ t ∉ o'.looksAt ops
inductive DrawA (P : Program) (T : TT) (r : Option Nat) (m : Nat) (ops : Array Oper) (Q : AX -> St -> Prop) : List Nat -> List (Nat × PK) -> St -> Prop
 | done {pend : List (Nat × PK)} {s : St} (h : Q .normal s) : DrawA P T r m ops Q [] pend s
 | val {i : Nat} {L : List Nat} {pend : List (Nat × PK)} {s : St} {o : Oper} {d : D} (ho : ops[i]? = some o) (hd : Z36 s.nt o.dst = true) (hl : LooksOk ops o pend) (hw : WritesOk ops o pend) (hs : ∀ t, o.dst = some t -> t ∉ o.looksAt ops)
   (hy : Z9i ar T ops (s.only (o.looksAt ops)) o (fun x => x = d)) (h : DrawA P T r m ops Q L ((i, .val d) :: pend) (s.step o.dst d s.H s.dfs)) : DrawA P T r m ops Q (i :: L) pend s
 | alc {i : Nat} {L : List Nat} {pend : List (Nat × PK)} {s : St} {o : Oper} {x : Blk} {d : D} (ho : ops[i]? = some o) (hd : Z36 s.nt o.dst = true) (hl : LooksOk ops o pend) (hw : WritesOk ops o pend) (hs : ∀ t, o.dst = some t -> t ∉ o.looksAt ops) (hb : BFr x)
   (hy : Zh ops (s.only (o.looksAt ops)) o (fun s' => Z5g ar T s' (fun y mk => y = x /\ mk s.H.length = d) o.op) (fun _ => False))
   (hp : ∀ u ∈ pend, POk ar T ops s u -> POk ar T ops (s.step o.dst d (s.H ++ [x]) s.dfs) u)
   (h : DrawA P T r m ops Q L ((i, .alc s.H.length x d) :: pend) (s.step o.dst d (s.H ++ [x]) s.dfs)) : DrawA P T r m ops Q (i :: L) pend s
 | eff {i : Nat} {L : List Nat} {pend : List (Nat × PK)} {s : St} {o : Oper} {K : D -> List Blk -> List AD -> Prop} (pend' : List (Nat × PK)) (ho : ops[i]? = some o) (hd : Z36 s.nt o.dst = true) (hl : LooksOk ops o pend) (hw : WritesOk ops o pend')
   (hpp : ∀ u ∈ pend, u ∈ pend' ∨ u.1 ∈ ons o) (hr : ∀ i' ∈ L, ∀ o', ops[i']? = some o' -> ∃ e ∈ ons o', e = i ∨ e ∈ L)
   (hk : Zh ops (s.only (o.looksAt ops)) o (fun s' => OpA P r o s' K (fun d H' => ∀ e, Q (.pan d) { env := e, H := H', nt := s.nt, dfs := s.dfs })) (fun _ => K (.tup []) s.H s.dfs))
   (hpin : ∀ d H' ds, K d H' ds -> ∀ u ∈ pend', POk ar T ops s u -> POk ar T ops (s.step o.dst d H' ds) u)
   (h : ∀ d H' ds, K d H' ds -> DrawA P T r m ops Q L pend' (s.step o.dst d H' ds)) : DrawA P T r m ops Q (i :: L) pend s
 | two {i j : Nat} {L : List Nat} {pend : List (Nat × PK)} {s : St} {o o2 : Oper} {K K2 : D -> List Blk -> List AD -> Prop} (p p2 : List (Nat × PK)) (ho : ops[i]? = some o) (ho2 : ops[j]? = some o2) (hd : Z36 s.nt o.dst = true) (hd2 : Z36 s.nt o2.dst = true) (hl : LooksOk ops o pend) (hl2 : LooksOk ops o2 pend)
   (hw : WritesOk ops o p) (hw2 : WritesOk ops o2 p2) (hpp : ∀ u ∈ pend, u ∈ p ∨ u.1 ∈ ons o) (hpp2 : ∀ u ∈ pend, u ∈ p2 ∨ u.1 ∈ ons o2) (hr : ∀ i' ∈ L, ∀ o', ops[i']? = some o' -> ∃ e ∈ ons o', e = i ∨ e = j ∨ e ∈ L)
   (hk : Zh ops (s.only (o.looksAt ops)) o (fun s' => OpA P r o s' K (fun d H' => ∀ e, Q (.pan d) { env := e, H := H', nt := s.nt, dfs := s.dfs })) (fun _ => K (.tup []) s.H s.dfs))
   (hk2 : Zh ops (s.only (o2.looksAt ops)) o2 (fun s' => OpA P r o2 s' K2 (fun d H' => ∀ e, Q (.pan d) { env := e, H := H', nt := s.nt, dfs := s.dfs })) (fun _ => K2 (.tup []) s.H s.dfs))
   (hpin : ∀ d H' ds, K d H' ds -> ∀ u ∈ p, POk ar T ops s u -> POk ar T ops (s.step o.dst d H' ds) u) (hpin2 : ∀ d H' ds, K2 d H' ds -> ∀ u ∈ p2, POk ar T ops s u -> POk ar T ops (s.step o2.dst d H' ds) u)
   (h : ∀ d H' ds, K d H' ds -> DrawA P T r m ops Q (j :: L) p (s.step o.dst d H' ds)) (h2 : ∀ d H' ds, K2 d H' ds -> DrawA P T r m ops Q (i :: L) p2 (s.step o2.dst d H' ds)) : DrawA P T r m ops Q (i :: j :: L) pend s
end Go.Abs

namespace Go.Abs
open Go
section
variable {P : Program} {T : TT} {r : Option Nat} {m : Nat} {ops : Array Oper} {Q : AX -> St -> Prop}
structure RD (T : TT) (m : Nat) (ops : Array Oper) (F : Fz) (μ : Mu) (s : St) (L : List Nat) (und : List (Nat × PK)) (listed : Array Bool) (a : Act) (w : World) : Prop where
 hr : HR F μ s.H w
 env : ∀ t d, Z1c s.env t = some d -> (∀ u ∈ und, ∀ o, ops[u.1]? = some o -> o.dst ≠ some t) -> ∃ v, a.tmps[t]? = some v /\ VR F μ d v
 nt : a.tmps.size = s.nt
 dfs : ADR F μ s.H s.dfs a.defers
 len : m <= s.H.length
 size : listed.size = ops.size
 opn : ∀ (i : Nat), listed[i]? = some false ↔ (i ∈ L ∨ ∃ u ∈ und, u.1 = i)
 nd : (L ++ und.map (·.1)).Nodup
 ok : ∀ u ∈ und, POk ar T ops s u
 cl : ∀ u ∈ und, ∀ u' ∈ und, ∀ o o' t, ops[u.1]? = some o -> ops[u'.1]? = some o' -> o'.dst = some t -> t ∈ o.looksAt ops -> u'.1 ∈ ons o
 ds : ∀ u ∈ und, ∀ u' ∈ und, u.1 ≠ u'.1 -> ∀ o o' t, ops[u.1]? = some o -> ops[u'.1]? = some o' -> o.dst = some t -> o'.dst ≠ some t
 pr : ∀ u ∈ und, ∀ k x d, u.2 = .alc k x d -> μ k = none /\ m <= k
 ks : ∀ u ∈ und, ∀ u' ∈ und, ∀ k x d x' d', u.2 = .alc k x d -> u'.2 = .alc k x' d' -> u.1 = u'.1
def Z3p (und : List (Nat × PK)) (i : Nat) : List (Nat × PK) := und.filter fun u => !(Nat.beq u.1 i)
theorem RD.at {F : Fz} {μ : Mu} {s : St} {L : List Nat} {und : List (Nat × PK)} {listed : Array Bool} {a : Act} {w : World} (h : RD T m ops F μ s L und listed a w) (n : Nat) : RD T m ops F μ s L und listed a (w.at n) :=
 ⟨h.hr.at n, h.env, h.nt, h.dfs, h.len, h.size, h.opn, h.nd, h.ok, h.cl, h.ds, h.pr, h.ks⟩
theorem Z1x {und : List (Nat × PK)} {i : Nat} {u : Nat × PK} : u ∈ Z3p und i ↔ u ∈ und /\ u.1 ≠ i := by
 unfold Z3p;rw [List.mem_filter];refine and_congr_right fun _ => ?_;constructor
 ·intro h e; subst e; simp at h
 ·intro h
  cases hb : Nat.beq u.1 i with
  | false => rfl
  | true => exact absurd (Nat.eq_of_beq_eq_true hb) h
theorem Z6k : ∀ {und : List (Nat × PK)} {i : Nat}, (und.map (·.1)).Nodup -> i ∈ und.map (·.1) -> (Z3p und i).length + 1 = und.length
 | [], i, _, h => by simp at h
 | u :: und, i, hn, h => by
  simp only [List.map_cons, List.nodup_cons] at hn
  by_cases e : u.1 = i
  ·have : Z3p (u :: und) i = und := by
    unfold Z3p;rw [List.filter_cons];have hb : (!(Nat.beq u.1 i)) = false := by rw [e, Nat.beq_refl]; rfl
    rw [hb];simp only [Bool.false_eq_true, if_false];rw [List.filter_eq_self];intro x hx
    cases hb : Nat.beq x.1 i with
    | false => rfl
    | true => exact absurd (List.mem_map.2 ⟨x, hx, (Nat.eq_of_beq_eq_true hb).trans e.symm⟩) hn.1
   rw [this]; rfl
  ·have hb : (!(Nat.beq u.1 i)) = true := by
    cases hb : Nat.beq u.1 i with
    | false => rfl
    | true => exact absurd (Nat.eq_of_beq_eq_true hb) e
   have h2 : i ∈ und.map (·.1) := by
    simp only [List.map_cons, List.mem_cons] at h;exact h.resolve_left (fun e' => e e'.symm)
   have := Z6k hn.2 h2;unfold Z3p at this ⊢;rw [List.filter_cons, hb];simp only [if_true, List.length_cons];omega
theorem Zml {und : List (Nat × PK)} {i : Nat} : (Z3p und i).map (·.1) = (und.map (·.1)).filter fun j => !(Nat.beq j i) := by
 unfold Z3p; rw [List.filter_map]; rfl
variable {F : Fz} {μ : Mu} {s : St} {L : List Nat} {und : List (Nat × PK)} {listed : Array Bool} {a : Act} {w : World}
theorem RD.pre (h : RD T m ops F μ s L und listed a w) {i : Nat} {o : Oper} (ho : ops[i]? = some o) (hi : i ∈ Region.ready .any ops listed) : ∀ e ∈ ons o, ¬ (e ∈ L ∨ ∃ u ∈ und, u.1 = e) := fun e he hop => by
 obtain ⟨-, o', ho', hall⟩ := mem_ready.1 hi;rw [ho] at ho'; cases ho';unfold ons at he;obtain ⟨ed, hed, rfl⟩ := List.mem_map.1 he;obtain ⟨hed, hb⟩ := List.mem_filter.1 hed;have h1 := hall ed (by simpa using hed) hb;have h2 := (h.opn ed.on).2 hop;rw [Array.getD_eq_getD_getElem?, h2] at h1
 cases h1
theorem RD.open_of_ready (h : RD T m ops F μ s L und listed a w) {i : Nat} (hi : i ∈ Region.ready .any ops listed) : i ∈ L ∨ ∃ u ∈ und, u.1 = i := by
 obtain ⟨h1, o, ho, -⟩ := mem_ready.1 hi;have hlt : i < listed.size := by rw [h.size]; exact (Array.getElem?_eq_some_iff.1 ho).1
 rw [Array.getD_eq_getD_getElem?, Array.getElem?_eq_getElem hlt] at h1;exact (h.opn i).1 (by rw [Array.getElem?_eq_getElem hlt]; simpa using h1)
theorem RD.progress (h : RD T m ops F μ s L und listed a w) (hE : ∀ (i : Nat) (o : Oper), ops[i]? = some o -> ∀ e ∈ ons o, e < i) (hne : ∃ i, i ∈ L ∨ ∃ u ∈ und, u.1 = i) : Region.ready .any ops listed ≠ [] := by
 obtain ⟨i, hi, hmin⟩ := Za7 hne;have h0 := (h.opn i).2 hi;have hlt : i < ops.size := by rw [<- h.size]; exact (Array.getElem?_eq_some_iff.1 h0).1
 intro hnil;have : i ∈ Region.ready .any ops listed := by
  refine mem_ready.2 ⟨by rw [Array.getD_eq_getD_getElem?, h0]; rfl, ops[i], Array.getElem?_eq_getElem hlt, fun e he hb => ?_⟩;have hl := hE i _ (Array.getElem?_eq_getElem hlt) e.on (List.mem_map.2 ⟨e, List.mem_filter.2 ⟨by simpa using he, hb⟩, rfl⟩);have hel : e.on < listed.size := by rw [h.size]; omega
  rw [Array.getD_eq_getD_getElem?, Array.getElem?_eq_getElem hel]
  cases hb2 : listed[e.on] with
  | true => rfl
  | false =>
   have := hmin e.on ((h.opn e.on).1 (by rw [Array.getElem?_eq_getElem hel, hb2]));omega
 rw [hnil] at this
 cases this
theorem RD.er (h : RD T m ops F μ s L und listed a w) {i : Nat} {o : Oper} (ho : ops[i]? = some o) (hi : i ∈ Region.ready .any ops listed)
  (hc : ∀ u' ∈ und, ∀ o' t, ops[u'.1]? = some o' -> o'.dst = some t -> t ∈ o.looksAt ops -> u'.1 ∈ ons o) : ER F μ (s.only (o.looksAt ops)) a :=
 ⟨fun t d ht => by
  obtain ⟨h1, h2⟩ := Zil ht
  exact h.env t d h1 fun u' hu' o' ho' hd => h.pre ho hi _ (hc u' hu' o' t ho' hd h2) (.inr ⟨u', hu', rfl⟩), h.nt, h.dfs⟩
theorem Zrq (h : RD T m ops F μ s L und listed a w) {u : Nat × PK} (hu : u ∈ und) : ∀ (i : Nat), (listed.setIfInBounds u.1 true)[i]? = some false ↔ (i ∈ L ∨ ∃ x ∈ Z3p und u.1, x.1 = i) := fun i => by
 have hnd := h.nd;rw [List.nodup_append] at hnd;rw [Array.getElem?_setIfInBounds]
 by_cases e : u.1 = i
 ·subst e;rw [if_pos rfl];constructor
  ·intro hh; split at hh <;> cases hh
  ·rintro (hL | ⟨x, hx, hxe⟩)
   ·exact absurd rfl (hnd.2.2 _ hL _ (List.mem_map.2 ⟨u, hu, rfl⟩))
   ·exact absurd hxe (Z1x.1 hx).2
 ·rw [if_neg e, h.opn i];refine or_congr_right ⟨fun ⟨x, hx, hxe⟩ => ⟨x, Z1x.2 ⟨hx, by rw [hxe]; exact fun e' => e e'.symm⟩, hxe⟩, fun ⟨x, hx, hxe⟩ => ⟨x, (Z1x.1 hx).1, hxe⟩⟩
theorem Zuj (h : RD T m ops F μ s L und listed a w) (i : Nat) : (L ++ (Z3p und i).map (·.1)).Nodup := by
 have hnd := h.nd;rw [List.nodup_append] at hnd ⊢;refine ⟨hnd.1, by rw [Zml]; exact hnd.2.1.sublist List.filter_sublist, fun x hx y hy => ?_⟩;obtain ⟨z, hz, rfl⟩ := List.mem_map.1 hy;exact hnd.2.2 x hx _ (List.mem_map.2 ⟨z, (Z1x.1 hz).1, rfl⟩)
end
end Go.Abs

namespace Go.Abs
open Go
section
variable {P : Program} {T : TT} {r : Option Nat} {m : Nat} {ops : Array Oper} {Q : AX -> St -> Prop}
variable {F : Fz} {μ : Mu} {s : St} {L : List Nat} {und : List (Nat × PK)} {listed : Array Bool} {a : Act} {w : World}
theorem Zo2 {a : Act} {dst : Option Nat} {v : Value} (t : Nat) : (a.put dst v).tmps[t]? = if dst = some t /\ t < a.tmps.size then some v else a.tmps[t]? := by
 cases dst with
 | none => simp [Act.put]
 | some t0 =>
  simp only [Act.put, Array.getElem?_setIfInBounds]
  by_cases e : t0 = t
  ·subst e
   by_cases hl : t0 < a.tmps.size
   ·simp [hl]
   ·simp [hl]
  ·simp [e]
theorem Zk6 {a : Act} {dst : Option Nat} {v : Value} : (a.put dst v).tmps.size = a.tmps.size := by cases dst <;> simp [Act.put]
theorem Zo3 {a : Act} {dst : Option Nat} {v : Value} : (a.put dst v).defers = a.defers := by cases dst <;> rfl
theorem Zrr {n : Nat} {dst : Option Nat} {t : Nat} (h : Z36 n dst = true) (e : dst = some t) : t < n := by subst e; exact Nat.le_of_ble_eq_true h
theorem Z223 {i fuel : Nat} (n : Nat) (h : op1Z r P ops (Z4f F μ s.H (w.at n) m Q) i (anyZ r P ops (Z4f F μ s.H (w.at n) m Q) fuel listed) a (w.at n)) : op1Z r P ops (Z4f F μ s.H w m Q) i (anyZ r P ops (Z4f F μ s.H w m Q) fuel listed) a (w.at n) :=
 Z1zz (Z1vw (fun _ _ _ hp => Z4f.ofAt hp) _ _) (fun _ _ _ hp => Z4f.ofAt hp) h
theorem Zfg (hT : TOK P T) (h : RD T m ops F μ s L und listed a w) {u : Nat × PK} (hu : u ∈ und) (hi : u.1 ∈ Region.ready .any ops listed)
  (IH : ∀ (F : Fz) (μ : Mu) (listed : Array Bool) (a : Act) (w : World), RD T m ops F μ s L (Z3p und u.1) listed a w -> anyZ r P ops (Z4f F μ s.H w m Q) (L.length + (Z3p und u.1).length) listed a w) :
  op1Z r P ops (Z4f F μ s.H w m Q) u.1 (anyZ r P ops (Z4f F μ s.H w m Q) (L.length + (Z3p und u.1).length) (listed.setIfInBounds u.1 true)) a w := by
 obtain ⟨o, ho, hdk, hdst, hm⟩ := (h.ok u hu).out;have er := h.er ho hi (fun u' hu' o' t h1 h2 h3 => h.cl u hu u' hu' o o' t ho h1 h2 h3);have nextE : ∀ (μ' : Mu) (w' : World) (v : Value), (∀ k x, μ k = some x -> μ' k = some x) -> VR F μ' u.2.d v -> ∀ t d, Z1c s.env t = some d -> (∀ u' ∈ Z3p und u.1, ∀ o', ops[u'.1]? = some o' -> o'.dst ≠ some t) -> ∃ v', (a.put o.dst v).tmps[t]? = some v' /\ VR F μ' d v' := fun μ' w' v hmono hv t d ht hun => by
  rw [Zo2]
  by_cases e : o.dst = some t
  ·have := hdst t e;rw [ht] at this; cases this;exact ⟨v, by rw [if_pos ⟨e, by rw [h.nt]; exact Zrr hdk e⟩], hv⟩
  ·rw [if_neg (fun hh => e hh.1)];obtain ⟨v', h1, h2⟩ := h.env t d ht fun u' hu' o' ho' => by
    by_cases e' : u'.1 = u.1
    ·rw [e', ho] at ho'; cases ho'; exact e
    ·exact hun u' (Z1x.2 ⟨hu', e'⟩) o' ho'
   exact ⟨v', h1, h2.mono (fun _ _ _ e => e) hmono⟩
 have sz : (listed.setIfInBounds u.1 true).size = ops.size := by rw [Array.size_setIfInBounds]; exact h.size
 have mk : ∀ (μ' : Mu) (w' : World) (v : Value), HR F μ' s.H w' -> (∀ k x, μ k = some x -> μ' k = some x) -> (∀ k c, μ.inn k c -> μ'.inn k c) -> VR F μ' u.2.d v -> (∀ u' ∈ Z3p und u.1, ∀ k x d, u'.2 = .alc k x d -> μ' k = none /\ m <= k) -> RD T m ops F μ' s L (Z3p und u.1) (listed.setIfInBounds u.1 true) (a.put o.dst v) w' := fun μ' w' v h1 h2 hi h3 h4 =>
  ⟨h1, nextE μ' w' v h2 h3, by rw [Zk6]; exact h.nt, by rw [Zo3]; exact h.dfs.mono (fun _ _ _ e => e) h2 (fun k hk => ⟨hk, hi k⟩), h.len, sz, Zrq h hu, Zuj h _, fun u' hu' => h.ok u' (Z1x.1 hu').1,
   fun u1 h1 u2 h2 => h.cl u1 (Z1x.1 h1).1 u2 (Z1x.1 h2).1, fun u1 h1 u2 h2 => h.ds u1 (Z1x.1 h1).1 u2 (Z1x.1 h2).1, h4, fun u1 h1 u2 h2 => h.ks u1 (Z1x.1 h1).1 u2 (Z1x.1 h2).1⟩
 have same : ∀ v, VR F μ u.2.d v -> RD T m ops F μ s L (Z3p und u.1) (listed.setIfInBounds u.1 true) (a.put o.dst v) w := fun v hv =>
  mk μ w v h.hr (fun _ _ e => e) (fun _ _ e => e) hv fun u' hu' k x d e => h.pr u' (Z1x.1 hu').1 k x d e
 unfold op1Z;rw [ho];simp only;obtain ⟨i, pk⟩ := u
 cases pk with
 | val d =>
  simp only at hm;obtain ⟨e, he, hc⟩ := Z4m hm er;have er' : ER F μ { s.only (o.looksAt ops) with env := e } a := ⟨fun t d ht => er.env t d (he t d ht), er.nt, er.dfs⟩;rcases hc with ⟨hw, hk⟩ | ⟨hw, hk⟩
  ·rw [if_pos hw];obtain ⟨g1, d', v, g2, g3, g4⟩ := Zez (s := { s.only (o.looksAt ops) with env := e }) hT h.hr er' hk;refine ⟨by rw [Oper.semAt_eq _ a.eval o g1]; exact Z1xp er' hk, ?_⟩;rw [Oper.semAt_eq _ a.eval o g1, g2, Z1uq];subst g4;exact IH F μ _ _ w (same v g3)
  ·rw [if_neg (by rw [hw]; simp)];refine IH F μ _ _ w (same undef ?_);show VR F μ d undef;rw [<- hk]; exact Z5h
 | alc k x d =>
  obtain ⟨hm1, hm2, hm3⟩ := hm;obtain ⟨e, he, hc⟩ := Z4m hm1 er;have er' : ER F μ { s.only (o.looksAt ops) with env := e } a := ⟨fun t d ht => er.env t d (he t d ht), er.nt, er.dfs⟩;rcases hc with ⟨hw, hk⟩ | ⟨hw, hk⟩
  ·rw [if_pos hw];obtain ⟨g1, x', mk', y, ⟨hbf, sz', es, c, t, v, q1, q2, q3, q4, q5⟩, g3, g4, g5⟩ := Zf2 (w := w) (μ := μ) hT er' hk;subst g4;refine ⟨Z1ve g1 (Z201 hk), ?_⟩;rw [Oper.semAt_eq _ a.eval o g1, g3, Sem.run_bind, q2];simp only [Result.andThen_ok, Sem.run_pure, Z1uq];obtain ⟨hk0, hkm⟩ := h.pr _ hu k x' d rfl;rw [Z1u] at hm2;have hklt := (List.getElem?_eq_some_iff.1 hm2).1;obtain ⟨r1, r2, r3⟩ := Zji h.hr hk0 (Nat.le_of_lt hklt) hbf q1 q3 q4 t;have hset : Z4l s.H k x' = s.H := by
    unfold Z4l;rw [if_pos hklt];have := (List.getElem?_eq_some_iff.1 hm2).2;rw [<- this]; exact List.set_getElem_self hklt
   rw [hset] at r1 r2;have hv : VR F (Z4v μ k (some (w.heap.size, c.size))) d v := by rw [<- g5]; exact q5 k _ (Z2f _ _ _)
   have hrd := mk _ _ v r1 r3 (fun _ _ e => e) hv fun u' hu' k' x1 d1 e1 => by
    have h2 := h.pr u' (Z1x.1 hu').1 k' x1 d1 e1;refine ⟨?_, h2.2⟩;rw [Z2k]
    ·exact h2.1
    ·intro e2; subst e2;exact (Z1x.1 hu').2 (h.ks u' (Z1x.1 hu').1 _ hu k' x1 d1 x' d e1 rfl)
   exact Z1vw (fun _ _ _ hp => hp.trans r2 ⟨fun j hj => by rw [Z2k _ (by omega)], fun _ _ hk => ⟨hk, fun _ e => e⟩⟩) _ _ _ _ (IH F _ _ _ _ hrd)
  ·exact hk.elim
end
end Go.Abs
