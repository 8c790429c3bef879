/- A closed fact of the program, by the kernel; no condition. -/
import Derived.Test.YtlmgompopkamfaaGreatDoorRows
import Derived.LaidByTextLater
import Derived.SevenTiedAt
import Derived.LaidMore
import Derived.Lay
import Derived.Lib.LaidIn
import Derived.ProofKit
import Derived.Stop.Joined
set_option maxRecDepth 100000
namespace Go.Proofs.YtlmgompopkamfaaGreatDoor
open Go
abbrev theLaid:List (String×DataW Unit):=[("unicode/utf8.first",Rows.laid_unicode_utf8_first),("unicode/utf8.acceptRanges",Rows.laid_unicode_utf8_acceptRanges),("strconv.ErrSyntax",Rows.laid_strconv_ErrSyntax),("strconv.ErrRange",Rows.laid_strconv_ErrRange),("internal/strconv.uint64pow10",Rows.laid_internal_strconv_uint64pow10),("math/bits.deBruijn32tab",Rows.laid_math_bits_deBruijn32tab),("math/bits.deBruijn64tab",Rows.laid_math_bits_deBruijn64tab),("errors.errorType",Rows.laid_errors_errorType)]
def tieL:List (String×DataW Unit):=[("unicode/utf8.acceptRanges",Rows.laid_unicode_utf8_acceptRanges),("strconv.ErrSyntax",Rows.laid_strconv_ErrSyntax),("strconv.ErrRange",Rows.laid_strconv_ErrRange),("internal/strconv.uint64pow10",Rows.laid_internal_strconv_uint64pow10),("math/bits.deBruijn32tab",Rows.laid_math_bits_deBruijn32tab),("math/bits.deBruijn64tab",Rows.laid_math_bits_deBruijn64tab),("errors.errorType",Rows.laid_errors_errorType)]
def tieK:List LaidKind:=[.data,.sentinel,.sentinel,.data,.data,.data,.handle]
noncomputable def wit(os:Os):World:=(World.doorLaid Tryz.prog 400 os).layVars Tryz.prog [("unicode/utf8.first",Rows.laid_unicode_utf8_first)]
abbrev wargs:Array Value:=#[.agg #[.int .i64 0,.int .i64 0,.int .i64 0,.int .i64 0],.slice none 0 0]
noncomputable abbrev witC(os:Os):World:=(wit os).forCall (λ_ _=>0) ⟨#[],wargs,[]⟩
theorem laidMet_of_run2{P:Program}{w:World}{l:List (String×DataW Unit)}(fuel:Nat)(h:(DataW.laidRun P w fuel (l.map (·.1))).map (·.1)=some l)(hn:(DataW.laidRun P w fuel (l.map (·.1))).map (λx=>nodupB (x.2.map MemPlace.codeOf))=some true)(hr:(DataW.laidRun P w fuel (l.map (·.1))).map (λx=>laidRowsB P w x.2)=some true):laidMet P l w:=by
 cases hx:DataW.laidRun P w fuel (l.map (·.1))with
 |none=>simp[hx]at h
 |some x=>
  rw[hx]at h hn hr;simp only[Option.map_some,Option.some.injEq]at h hn hr;obtain⟨x1,ps⟩:=x;simp only at h hn hr;subst h;refine⟨ps,DataW.LaidVars_of_laidRun hx,nodup_of_code hn,λb off hp=>?_⟩;have:=List.all_eq_true.1 hr _ hp;simp only[Bool.and_eq_true]at this;obtain⟨h1,h2⟩:=this;refine⟨?_,λu v hc=>?_⟩
  ·split at h1
   ·rename_i c t' hh
    exact⟨c,t',hh⟩
   ·cases h1
  ·rw[hc]at h2
   exact Value.okWide_of_okWideB h2
