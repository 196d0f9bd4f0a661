/- The contract of Tokens in the form in which the texts above it use it. -/
import Derived.Test.YtbgnkoecfokmaaaDoorLexWalkF
import Derived.Test.YtbgnkoecfokmaaaDoorPXx0
namespace Go.Proofs.YtbgnkoecfokmaaaDoor.PX
open Go.RowKit Go.Proofs.YtbgnkoecfokmaaaDoorW.PrintWords Go.Proofs.YtbgnkoecfokmaaaDoorW.PrintLast Go.Proofs.YtbgnkoecfokmaaaDoorW.PrintMore

def toS (x : Lex.Tok) : S29 := ⟨(x.1 : Nat), ⟨x.2.1.toArray⟩, (x.2.2 : Nat)⟩
def lexer_Tokens.f (a0 : ByteArray) : Option (List S29 × Int × Int) :=
  some ((Lex.tokens a0.data.toList).1.map toS, ((Lex.tokens a0.data.toList).2.1 : Nat), ((Lex.tokens a0.data.toList).2.2 : Nat))

theorem reps_toks (w : World) (base : Nat) (ok : Nat → Prop) : ∀ l : List Lex.Tok, Reps (k29.M w base ok) 3 (l.map toS) (Lex.cellsT l)
  | [] => Reps.none _ _
  | x :: l => by
    have ih := reps_toks w base ok l
    have e : Lex.cellsT (x :: l) = [.int .i64 (x.1 : Nat), .string ⟨x.2.1.toArray⟩, .int .i64 (x.2.2 : Nat)] ++ Lex.cellsT l := rfl
    refine ⟨by rw [e, List.length_append, ih.1]; simp; omega, fun j p hj => ?_⟩
    cases j with
    | zero =>
      obtain rfl : toS x = p := by simpa using hj
      rw [e]
      exact k29_mkM w base ok (toS x)
    | succ j =>
      have := ih.2 j p (by simpa using hj)
      rw [e, show (j + 1) * 3 = 3 + j * 3 by omega, ← List.drop_drop]
      exact this

theorem lexer_Tokens.calls (a0 : ByteArray) (r1 : List S29) (r2 : Int) (r3 : Int) (w : World) (hG : Go.Proofs.YtbgnkoecfokmaaaDoor.Lex.Gl w) (h : lexer_Tokens.f a0 = some (r1, r2, r3)) :
    Calls Tryd.prog 11 #[.string a0] w fun e w' => ∃ v0_ : Value, e = .returned (.tuple #[v0_, .int .i64 r2, .int .i64 r3]) ∧ Kd.R k29 29 w' w.heap.size (fun _ => True) v0_ r1 ∧ Below w.heap.size w w' := by
  unfold lexer_Tokens.f at h
  injection h with h
  injection h with h1 h
  injection h with h2 h3
  subst h1 h2 h3
  refine (Lex.tokens_any a0 w hG).mono ?_
  rintro e w' ⟨v, he, hrow, hB⟩
  refine ⟨v, he, ⟨fun _ _ => trivial, Lex.cellsT _, ?_, reps_toks _ _ _ _⟩, hB⟩
  rw [List.length_map]
  exact hrow

end Go.Proofs.YtbgnkoecfokmaaaDoor.PX
