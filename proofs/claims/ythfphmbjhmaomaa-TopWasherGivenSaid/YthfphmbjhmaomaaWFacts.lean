/-
  The types of this seat: their sizes, their zero values.
-/
import Derived.Test.YthfphmbjhmaomaaAmSimp
import Derived.Test.YthfphmbjhmaomaaProg
import Derived.KernelRfl
namespace Go.AM
open Go.Proofs
@[simp] theorem Try.ag1 : aggB Try.prog 1 = some false := by kernel_rfl
@[simp] theorem Try.sz1 : szOf Try.prog 1 = some 1 := by kernel_rfl
@[simp] theorem Try.by1 : bytesOf Try.prog 1 = some 8 := by kernel_rfl
@[simp] theorem Try.ze1 : zeroOf Try.prog 1 = some (.nilFunc) := by kernel_rfl
attribute [simp] Try.underlying1
@[simp] theorem Try.ag2 : aggB Try.prog 2 = some false := by kernel_rfl
@[simp] theorem Try.sz2 : szOf Try.prog 2 = some 1 := by kernel_rfl
@[simp] theorem Try.by2 : bytesOf Try.prog 2 = some 8 := by kernel_rfl
@[simp] theorem Try.ze2 : zeroOf Try.prog 2 = some (.int .i64 0) := by kernel_rfl
attribute [simp] Try.underlying2
@[simp] theorem Try.ag3 : aggB Try.prog 3 = some false := by kernel_rfl
@[simp] theorem Try.sz3 : szOf Try.prog 3 = some 1 := by kernel_rfl
@[simp] theorem Try.by3 : bytesOf Try.prog 3 = some 8 := by kernel_rfl
@[simp] theorem Try.ze3 : zeroOf Try.prog 3 = some (.int .i64 0) := by kernel_rfl
attribute [simp] Try.underlying3
@[simp] theorem Try.ag4 : aggB Try.prog 4 = some false := by kernel_rfl
@[simp] theorem Try.sz4 : szOf Try.prog 4 = some 1 := by kernel_rfl
@[simp] theorem Try.by4 : bytesOf Try.prog 4 = some 1 := by kernel_rfl
@[simp] theorem Try.ze4 : zeroOf Try.prog 4 = some (.bool false) := by kernel_rfl
attribute [simp] Try.underlying4
@[simp] theorem Try.ag5 : aggB Try.prog 5 = some false := by kernel_rfl
@[simp] theorem Try.sz5 : szOf Try.prog 5 = some 1 := by kernel_rfl
@[simp] theorem Try.by5 : bytesOf Try.prog 5 = some 1 := by kernel_rfl
@[simp] theorem Try.ze5 : zeroOf Try.prog 5 = some (.int .u8 0) := by kernel_rfl
attribute [simp] Try.underlying5
@[simp] theorem Try.ag6 : aggB Try.prog 6 = some false := by kernel_rfl
@[simp] theorem Try.sz6 : szOf Try.prog 6 = some 1 := by kernel_rfl
@[simp] theorem Try.by6 : bytesOf Try.prog 6 = some 1 := by kernel_rfl
@[simp] theorem Try.ze6 : zeroOf Try.prog 6 = some (.int .u8 0) := by kernel_rfl
attribute [simp] Try.underlying6
@[simp] theorem Try.ag7 : aggB Try.prog 7 = some true := by kernel_rfl
@[simp] theorem Try.sz7 : szOf Try.prog 7 = some 4 := by kernel_rfl
@[simp] theorem Try.by7 : bytesOf Try.prog 7 = some 24 := by kernel_rfl
@[simp] theorem Try.ze7 : zeroOf Try.prog 7 = some (.agg #[(.int .i64 0), (.int .i64 0), (.bool false), (.int .u8 0)]) := by kernel_rfl
attribute [simp] Try.underlying7
@[simp] theorem Try.ag8 : aggB Try.prog 8 = some true := by kernel_rfl
@[simp] theorem Try.sz8 : szOf Try.prog 8 = some 4 := by kernel_rfl
@[simp] theorem Try.by8 : bytesOf Try.prog 8 = some 24 := by kernel_rfl
@[simp] theorem Try.ze8 : zeroOf Try.prog 8 = some (.agg #[(.int .i64 0), (.int .i64 0), (.bool false), (.int .u8 0)]) := by kernel_rfl
attribute [simp] Try.underlying8
@[simp] theorem Try.ag9 : aggB Try.prog 9 = some false := by kernel_rfl
@[simp] theorem Try.sz9 : szOf Try.prog 9 = some 1 := by kernel_rfl
@[simp] theorem Try.by9 : bytesOf Try.prog 9 = some 16 := by kernel_rfl
@[simp] theorem Try.ze9 : zeroOf Try.prog 9 = some (.string ⟨#[]⟩) := by kernel_rfl
attribute [simp] Try.underlying9
@[simp] theorem Try.ag10 : aggB Try.prog 10 = some false := by kernel_rfl
@[simp] theorem Try.sz10 : szOf Try.prog 10 = some 1 := by kernel_rfl
@[simp] theorem Try.by10 : bytesOf Try.prog 10 = some 16 := by kernel_rfl
@[simp] theorem Try.ze10 : zeroOf Try.prog 10 = some (.string ⟨#[]⟩) := by kernel_rfl
attribute [simp] Try.underlying10
@[simp] theorem Try.ag11 : aggB Try.prog 11 = some false := by kernel_rfl
@[simp] theorem Try.sz11 : szOf Try.prog 11 = some 1 := by kernel_rfl
@[simp] theorem Try.by11 : bytesOf Try.prog 11 = some 16 := by kernel_rfl
@[simp] theorem Try.ze11 : zeroOf Try.prog 11 = some (.string ⟨#[]⟩) := by kernel_rfl
attribute [simp] Try.underlying11
@[simp] theorem Try.ag12 : aggB Try.prog 12 = some false := by kernel_rfl
@[simp] theorem Try.sz12 : szOf Try.prog 12 = some 1 := by kernel_rfl
@[simp] theorem Try.by12 : bytesOf Try.prog 12 = some 8 := by kernel_rfl
@[simp] theorem Try.ze12 : zeroOf Try.prog 12 = some (.int .u64 0) := by kernel_rfl
attribute [simp] Try.underlying12
@[simp] theorem Try.ag13 : aggB Try.prog 13 = some true := by kernel_rfl
@[simp] theorem Try.sz13 : szOf Try.prog 13 = some 2 := by kernel_rfl
@[simp] theorem Try.by13 : bytesOf Try.prog 13 = some 24 := by kernel_rfl
@[simp] theorem Try.ze13 : zeroOf Try.prog 13 = some (.agg #[(.string ⟨#[]⟩), (.int .u64 0)]) := by kernel_rfl
attribute [simp] Try.underlying13
@[simp] theorem Try.ag14 : aggB Try.prog 14 = some true := by kernel_rfl
@[simp] theorem Try.sz14 : szOf Try.prog 14 = some 2 := by kernel_rfl
@[simp] theorem Try.by14 : bytesOf Try.prog 14 = some 24 := by kernel_rfl
@[simp] theorem Try.ze14 : zeroOf Try.prog 14 = some (.agg #[(.string ⟨#[]⟩), (.int .u64 0)]) := by kernel_rfl
attribute [simp] Try.underlying14
@[simp] theorem Try.ag15 : aggB Try.prog 15 = some false := by kernel_rfl
@[simp] theorem Try.sz15 : szOf Try.prog 15 = some 1 := by kernel_rfl
@[simp] theorem Try.by15 : bytesOf Try.prog 15 = some 8 := by kernel_rfl
attribute [simp] Try.underlying15
@[simp] theorem Try.ag16 : aggB Try.prog 16 = some false := by kernel_rfl
@[simp] theorem Try.sz16 : szOf Try.prog 16 = some 1 := by kernel_rfl
@[simp] theorem Try.by16 : bytesOf Try.prog 16 = some 8 := by kernel_rfl
attribute [simp] Try.underlying16
@[simp] theorem Try.ag17 : aggB Try.prog 17 = some false := by kernel_rfl
@[simp] theorem Try.sz17 : szOf Try.prog 17 = some 1 := by kernel_rfl
@[simp] theorem Try.by17 : bytesOf Try.prog 17 = some 8 := by kernel_rfl
attribute [simp] Try.underlying17
@[simp] theorem Try.ag18 : aggB Try.prog 18 = some true := by kernel_rfl
@[simp] theorem Try.sz18 : szOf Try.prog 18 = some 1 := by kernel_rfl
@[simp] theorem Try.by18 : bytesOf Try.prog 18 = some 8 := by kernel_rfl
@[simp] theorem Try.ze18 : zeroOf Try.prog 18 = some (.agg #[(.pointer none)]) := by kernel_rfl
attribute [simp] Try.underlying18
@[simp] theorem Try.ag19 : aggB Try.prog 19 = some true := by kernel_rfl
@[simp] theorem Try.sz19 : szOf Try.prog 19 = some 1 := by kernel_rfl
@[simp] theorem Try.by19 : bytesOf Try.prog 19 = some 8 := by kernel_rfl
@[simp] theorem Try.ze19 : zeroOf Try.prog 19 = some (.agg #[(.pointer none)]) := by kernel_rfl
attribute [simp] Try.underlying19
@[simp] theorem Try.ag21 : aggB Try.prog 21 = some false := by kernel_rfl
@[simp] theorem Try.sz21 : szOf Try.prog 21 = some 1 := by kernel_rfl
@[simp] theorem Try.by21 : bytesOf Try.prog 21 = some 4 := by kernel_rfl
@[simp] theorem Try.ze21 : zeroOf Try.prog 21 = some (.int .i32 0) := by kernel_rfl
attribute [simp] Try.underlying21
@[simp] theorem Try.ag22 : aggB Try.prog 22 = some false := by kernel_rfl
@[simp] theorem Try.sz22 : szOf Try.prog 22 = some 1 := by kernel_rfl
@[simp] theorem Try.by22 : bytesOf Try.prog 22 = some 24 := by kernel_rfl
@[simp] theorem Try.ze22 : zeroOf Try.prog 22 = some (.slice none 0 0) := by kernel_rfl
attribute [simp] Try.underlying22
@[simp] theorem Try.ag23 : aggB Try.prog 23 = some true := by kernel_rfl
@[simp] theorem Try.sz23 : szOf Try.prog 23 = some 2 := by kernel_rfl
@[simp] theorem Try.by23 : bytesOf Try.prog 23 = some 32 := by kernel_rfl
@[simp] theorem Try.ze23 : zeroOf Try.prog 23 = some (.agg #[(.int .i64 0), (.slice none 0 0)]) := by kernel_rfl
attribute [simp] Try.underlying23
@[simp] theorem Try.ag24 : aggB Try.prog 24 = some true := by kernel_rfl
@[simp] theorem Try.sz24 : szOf Try.prog 24 = some 2 := by kernel_rfl
@[simp] theorem Try.by24 : bytesOf Try.prog 24 = some 32 := by kernel_rfl
@[simp] theorem Try.ze24 : zeroOf Try.prog 24 = some (.agg #[(.int .i64 0), (.slice none 0 0)]) := by kernel_rfl
attribute [simp] Try.underlying24
@[simp] theorem Try.ag25 : aggB Try.prog 25 = some false := by kernel_rfl
@[simp] theorem Try.sz25 : szOf Try.prog 25 = some 1 := by kernel_rfl
@[simp] theorem Try.by25 : bytesOf Try.prog 25 = some 8 := by kernel_rfl
@[simp] theorem Try.ze25 : zeroOf Try.prog 25 = some (.nilFunc) := by kernel_rfl
attribute [simp] Try.underlying25
@[simp] theorem Try.ag26 : aggB Try.prog 26 = some false := by kernel_rfl
@[simp] theorem Try.sz26 : szOf Try.prog 26 = some 1 := by kernel_rfl
@[simp] theorem Try.by26 : bytesOf Try.prog 26 = some 8 := by kernel_rfl
@[simp] theorem Try.ze26 : zeroOf Try.prog 26 = some (.nilFunc) := by kernel_rfl
attribute [simp] Try.underlying26
@[simp] theorem Try.ag27 : aggB Try.prog 27 = some false := by kernel_rfl
@[simp] theorem Try.sz27 : szOf Try.prog 27 = some 1 := by kernel_rfl
@[simp] theorem Try.by27 : bytesOf Try.prog 27 = some 8 := by kernel_rfl
@[simp] theorem Try.ze27 : zeroOf Try.prog 27 = some (.nilFunc) := by kernel_rfl
attribute [simp] Try.underlying27
@[simp] theorem Try.ag28 : aggB Try.prog 28 = some false := by kernel_rfl
@[simp] theorem Try.sz28 : szOf Try.prog 28 = some 1 := by kernel_rfl
@[simp] theorem Try.by28 : bytesOf Try.prog 28 = some 24 := by kernel_rfl
@[simp] theorem Try.ze28 : zeroOf Try.prog 28 = some (.slice none 0 0) := by kernel_rfl
attribute [simp] Try.underlying28
@[simp] theorem Try.ag29 : aggB Try.prog 29 = some false := by kernel_rfl
@[simp] theorem Try.sz29 : szOf Try.prog 29 = some 1 := by kernel_rfl
@[simp] theorem Try.by29 : bytesOf Try.prog 29 = some 8 := by kernel_rfl
@[simp] theorem Try.ze29 : zeroOf Try.prog 29 = some (.int .i64 0) := by kernel_rfl
attribute [simp] Try.underlying29
@[simp] theorem Try.ag31 : aggB Try.prog 31 = some false := by kernel_rfl
@[simp] theorem Try.sz31 : szOf Try.prog 31 = some 1 := by kernel_rfl
@[simp] theorem Try.by31 : bytesOf Try.prog 31 = some 8 := by kernel_rfl
@[simp] theorem Try.ze31 : zeroOf Try.prog 31 = some (.nilFunc) := by kernel_rfl
attribute [simp] Try.underlying31
@[simp] theorem Try.ag32 : aggB Try.prog 32 = some false := by kernel_rfl
@[simp] theorem Try.sz32 : szOf Try.prog 32 = some 1 := by kernel_rfl
@[simp] theorem Try.by32 : bytesOf Try.prog 32 = some 24 := by kernel_rfl
@[simp] theorem Try.ze32 : zeroOf Try.prog 32 = some (.slice none 0 0) := by kernel_rfl
attribute [simp] Try.underlying32
@[simp] theorem Try.ag33 : aggB Try.prog 33 = some true := by kernel_rfl
@[simp] theorem Try.sz33 : szOf Try.prog 33 = some 2 := by kernel_rfl
@[simp] theorem Try.by33 : bytesOf Try.prog 33 = some 32 := by kernel_rfl
@[simp] theorem Try.ze33 : zeroOf Try.prog 33 = some (.agg #[(.int .i64 0), (.slice none 0 0)]) := by kernel_rfl
attribute [simp] Try.underlying33
@[simp] theorem Try.ag34 : aggB Try.prog 34 = some true := by kernel_rfl
@[simp] theorem Try.sz34 : szOf Try.prog 34 = some 2 := by kernel_rfl
@[simp] theorem Try.by34 : bytesOf Try.prog 34 = some 32 := by kernel_rfl
@[simp] theorem Try.ze34 : zeroOf Try.prog 34 = some (.agg #[(.int .i64 0), (.slice none 0 0)]) := by kernel_rfl
attribute [simp] Try.underlying34
@[simp] theorem Try.ag35 : aggB Try.prog 35 = some false := by kernel_rfl
@[simp] theorem Try.sz35 : szOf Try.prog 35 = some 1 := by kernel_rfl
@[simp] theorem Try.by35 : bytesOf Try.prog 35 = some 8 := by kernel_rfl
@[simp] theorem Try.ze35 : zeroOf Try.prog 35 = some (.nilFunc) := by kernel_rfl
attribute [simp] Try.underlying35
@[simp] theorem Try.ag36 : aggB Try.prog 36 = some false := by kernel_rfl
@[simp] theorem Try.sz36 : szOf Try.prog 36 = some 1 := by kernel_rfl
@[simp] theorem Try.by36 : bytesOf Try.prog 36 = some 24 := by kernel_rfl
@[simp] theorem Try.ze36 : zeroOf Try.prog 36 = some (.slice none 0 0) := by kernel_rfl
attribute [simp] Try.underlying36
@[simp] theorem Try.ag37 : aggB Try.prog 37 = some false := by kernel_rfl
@[simp] theorem Try.sz37 : szOf Try.prog 37 = some 1 := by kernel_rfl
@[simp] theorem Try.by37 : bytesOf Try.prog 37 = some 8 := by kernel_rfl
@[simp] theorem Try.ze37 : zeroOf Try.prog 37 = some (.nilFunc) := by kernel_rfl
attribute [simp] Try.underlying37
@[simp] theorem Try.ag39 : aggB Try.prog 39 = some false := by kernel_rfl
@[simp] theorem Try.sz39 : szOf Try.prog 39 = some 1 := by kernel_rfl
@[simp] theorem Try.by39 : bytesOf Try.prog 39 = some 8 := by kernel_rfl
@[simp] theorem Try.ze39 : zeroOf Try.prog 39 = some (.nilFunc) := by kernel_rfl
attribute [simp] Try.underlying39
@[simp] theorem Try.ag40 : aggB Try.prog 40 = some false := by kernel_rfl
@[simp] theorem Try.sz40 : szOf Try.prog 40 = some 1 := by kernel_rfl
@[simp] theorem Try.by40 : bytesOf Try.prog 40 = some 8 := by kernel_rfl
@[simp] theorem Try.ze40 : zeroOf Try.prog 40 = some (.nilFunc) := by kernel_rfl
attribute [simp] Try.underlying40
@[simp] theorem Try.ag42 : aggB Try.prog 42 = some false := by kernel_rfl
@[simp] theorem Try.sz42 : szOf Try.prog 42 = some 1 := by kernel_rfl
@[simp] theorem Try.by42 : bytesOf Try.prog 42 = some 8 := by kernel_rfl
@[simp] theorem Try.ze42 : zeroOf Try.prog 42 = some (.nilFunc) := by kernel_rfl
attribute [simp] Try.underlying42
@[simp] theorem Try.ag43 : aggB Try.prog 43 = some false := by kernel_rfl
@[simp] theorem Try.sz43 : szOf Try.prog 43 = some 1 := by kernel_rfl
@[simp] theorem Try.by43 : bytesOf Try.prog 43 = some 24 := by kernel_rfl
@[simp] theorem Try.ze43 : zeroOf Try.prog 43 = some (.slice none 0 0) := by kernel_rfl
attribute [simp] Try.underlying43
@[simp] theorem Try.ag44 : aggB Try.prog 44 = some true := by kernel_rfl
@[simp] theorem Try.sz44 : szOf Try.prog 44 = some 5 := by kernel_rfl
@[simp] theorem Try.by44 : bytesOf Try.prog 44 = some 64 := by kernel_rfl
@[simp] theorem Try.ze44 : zeroOf Try.prog 44 = some (.agg #[(.string ⟨#[]⟩), (.slice none 0 0), (.int .i64 0), (.int .i64 0), (.int .i64 0)]) := by kernel_rfl
attribute [simp] Try.underlying44
@[simp] theorem Try.ag45 : aggB Try.prog 45 = some true := by kernel_rfl
@[simp] theorem Try.sz45 : szOf Try.prog 45 = some 5 := by kernel_rfl
@[simp] theorem Try.by45 : bytesOf Try.prog 45 = some 64 := by kernel_rfl
@[simp] theorem Try.ze45 : zeroOf Try.prog 45 = some (.agg #[(.string ⟨#[]⟩), (.slice none 0 0), (.int .i64 0), (.int .i64 0), (.int .i64 0)]) := by kernel_rfl
attribute [simp] Try.underlying45
@[simp] theorem Try.ag46 : aggB Try.prog 46 = some false := by kernel_rfl
@[simp] theorem Try.sz46 : szOf Try.prog 46 = some 1 := by kernel_rfl
@[simp] theorem Try.by46 : bytesOf Try.prog 46 = some 24 := by kernel_rfl
@[simp] theorem Try.ze46 : zeroOf Try.prog 46 = some (.slice none 0 0) := by kernel_rfl
attribute [simp] Try.underlying46
@[simp] theorem Try.ag47 : aggB Try.prog 47 = some true := by kernel_rfl
@[simp] theorem Try.sz47 : szOf Try.prog 47 = some 2 := by kernel_rfl
@[simp] theorem Try.by47 : bytesOf Try.prog 47 = some 16 := by kernel_rfl
@[simp] theorem Try.ze47 : zeroOf Try.prog 47 = some (.agg #[(.int .i64 0), (.int .i64 0)]) := by kernel_rfl
attribute [simp] Try.underlying47
@[simp] theorem Try.ag48 : aggB Try.prog 48 = some true := by kernel_rfl
@[simp] theorem Try.sz48 : szOf Try.prog 48 = some 2 := by kernel_rfl
@[simp] theorem Try.by48 : bytesOf Try.prog 48 = some 16 := by kernel_rfl
@[simp] theorem Try.ze48 : zeroOf Try.prog 48 = some (.agg #[(.int .i64 0), (.int .i64 0)]) := by kernel_rfl
attribute [simp] Try.underlying48
@[simp] theorem Try.ag49 : aggB Try.prog 49 = some false := by kernel_rfl
@[simp] theorem Try.sz49 : szOf Try.prog 49 = some 1 := by kernel_rfl
@[simp] theorem Try.by49 : bytesOf Try.prog 49 = some 8 := by kernel_rfl
@[simp] theorem Try.ze49 : zeroOf Try.prog 49 = some (.nilFunc) := by kernel_rfl
attribute [simp] Try.underlying49
@[simp] theorem Try.ag50 : aggB Try.prog 50 = some true := by kernel_rfl
@[simp] theorem Try.sz50 : szOf Try.prog 50 = some 3 := by kernel_rfl
@[simp] theorem Try.by50 : bytesOf Try.prog 50 = some 24 := by kernel_rfl
@[simp] theorem Try.ze50 : zeroOf Try.prog 50 = some (.agg #[(.int .i64 0), (.int .i64 0), (.int .i64 0)]) := by kernel_rfl
attribute [simp] Try.underlying50
@[simp] theorem Try.ag51 : aggB Try.prog 51 = some true := by kernel_rfl
@[simp] theorem Try.sz51 : szOf Try.prog 51 = some 3 := by kernel_rfl
@[simp] theorem Try.by51 : bytesOf Try.prog 51 = some 24 := by kernel_rfl
@[simp] theorem Try.ze51 : zeroOf Try.prog 51 = some (.agg #[(.int .i64 0), (.int .i64 0), (.int .i64 0)]) := by kernel_rfl
attribute [simp] Try.underlying51
@[simp] theorem Try.ag52 : aggB Try.prog 52 = some false := by kernel_rfl
@[simp] theorem Try.sz52 : szOf Try.prog 52 = some 1 := by kernel_rfl
@[simp] theorem Try.by52 : bytesOf Try.prog 52 = some 24 := by kernel_rfl
@[simp] theorem Try.ze52 : zeroOf Try.prog 52 = some (.slice none 0 0) := by kernel_rfl
attribute [simp] Try.underlying52
@[simp] theorem Try.ag53 : aggB Try.prog 53 = some true := by kernel_rfl
@[simp] theorem Try.sz53 : szOf Try.prog 53 = some 2 := by kernel_rfl
@[simp] theorem Try.by53 : bytesOf Try.prog 53 = some 48 := by kernel_rfl
@[simp] theorem Try.ze53 : zeroOf Try.prog 53 = some (.agg #[(.slice none 0 0), (.slice none 0 0)]) := by kernel_rfl
attribute [simp] Try.underlying53
@[simp] theorem Try.ag54 : aggB Try.prog 54 = some false := by kernel_rfl
@[simp] theorem Try.sz54 : szOf Try.prog 54 = some 1 := by kernel_rfl
@[simp] theorem Try.by54 : bytesOf Try.prog 54 = some 8 := by kernel_rfl
@[simp] theorem Try.ze54 : zeroOf Try.prog 54 = some (.nilFunc) := by kernel_rfl
attribute [simp] Try.underlying54
@[simp] theorem Try.ag55 : aggB Try.prog 55 = some false := by kernel_rfl
@[simp] theorem Try.sz55 : szOf Try.prog 55 = some 1 := by kernel_rfl
@[simp] theorem Try.by55 : bytesOf Try.prog 55 = some 8 := by kernel_rfl
@[simp] theorem Try.ze55 : zeroOf Try.prog 55 = some (.nilFunc) := by kernel_rfl
attribute [simp] Try.underlying55
@[simp] theorem Try.ag56 : aggB Try.prog 56 = some false := by kernel_rfl
@[simp] theorem Try.sz56 : szOf Try.prog 56 = some 1 := by kernel_rfl
@[simp] theorem Try.by56 : bytesOf Try.prog 56 = some 8 := by kernel_rfl
@[simp] theorem Try.ze56 : zeroOf Try.prog 56 = some (.nilFunc) := by kernel_rfl
attribute [simp] Try.underlying56
@[simp] theorem Try.ag57 : aggB Try.prog 57 = some false := by kernel_rfl
@[simp] theorem Try.sz57 : szOf Try.prog 57 = some 1 := by kernel_rfl
@[simp] theorem Try.by57 : bytesOf Try.prog 57 = some 24 := by kernel_rfl
@[simp] theorem Try.ze57 : zeroOf Try.prog 57 = some (.slice none 0 0) := by kernel_rfl
attribute [simp] Try.underlying57
@[simp] theorem Try.ag58 : aggB Try.prog 58 = some true := by kernel_rfl
@[simp] theorem Try.sz58 : szOf Try.prog 58 = some 2 := by kernel_rfl
@[simp] theorem Try.by58 : bytesOf Try.prog 58 = some 16 := by kernel_rfl
@[simp] theorem Try.ze58 : zeroOf Try.prog 58 = some (.agg #[(.int .i64 0), (.int .i64 0)]) := by kernel_rfl
attribute [simp] Try.underlying58
@[simp] theorem Try.ag59 : aggB Try.prog 59 = some true := by kernel_rfl
@[simp] theorem Try.sz59 : szOf Try.prog 59 = some 2 := by kernel_rfl
@[simp] theorem Try.by59 : bytesOf Try.prog 59 = some 16 := by kernel_rfl
@[simp] theorem Try.ze59 : zeroOf Try.prog 59 = some (.agg #[(.int .i64 0), (.int .i64 0)]) := by kernel_rfl
attribute [simp] Try.underlying59
@[simp] theorem Try.ag60 : aggB Try.prog 60 = some true := by kernel_rfl
@[simp] theorem Try.sz60 : szOf Try.prog 60 = some 2 := by kernel_rfl
@[simp] theorem Try.by60 : bytesOf Try.prog 60 = some 16 := by kernel_rfl
@[simp] theorem Try.ze60 : zeroOf Try.prog 60 = some (.agg #[(.int .i64 0), (.int .i64 0)]) := by kernel_rfl
attribute [simp] Try.underlying60
@[simp] theorem Try.ag61 : aggB Try.prog 61 = some false := by kernel_rfl
@[simp] theorem Try.sz61 : szOf Try.prog 61 = some 1 := by kernel_rfl
@[simp] theorem Try.by61 : bytesOf Try.prog 61 = some 8 := by kernel_rfl
@[simp] theorem Try.ze61 : zeroOf Try.prog 61 = some (.nilFunc) := by kernel_rfl
attribute [simp] Try.underlying61
@[simp] theorem Try.ag63 : aggB Try.prog 63 = some false := by kernel_rfl
@[simp] theorem Try.sz63 : szOf Try.prog 63 = some 1 := by kernel_rfl
@[simp] theorem Try.by63 : bytesOf Try.prog 63 = some 8 := by kernel_rfl
@[simp] theorem Try.ze63 : zeroOf Try.prog 63 = some (.nilFunc) := by kernel_rfl
attribute [simp] Try.underlying63
@[simp] theorem Try.ag64 : aggB Try.prog 64 = some false := by kernel_rfl
@[simp] theorem Try.sz64 : szOf Try.prog 64 = some 1 := by kernel_rfl
@[simp] theorem Try.by64 : bytesOf Try.prog 64 = some 8 := by kernel_rfl
@[simp] theorem Try.ze64 : zeroOf Try.prog 64 = some (.nilFunc) := by kernel_rfl
attribute [simp] Try.underlying64
@[simp] theorem Try.ag65 : aggB Try.prog 65 = some true := by kernel_rfl
@[simp] theorem Try.sz65 : szOf Try.prog 65 = some 3 := by kernel_rfl
@[simp] theorem Try.by65 : bytesOf Try.prog 65 = some 24 := by kernel_rfl
@[simp] theorem Try.ze65 : zeroOf Try.prog 65 = some (.agg #[(.int .i64 0), (.int .i64 0), (.int .i64 0)]) := by kernel_rfl
attribute [simp] Try.underlying65
@[simp] theorem Try.ag66 : aggB Try.prog 66 = some true := by kernel_rfl
@[simp] theorem Try.sz66 : szOf Try.prog 66 = some 3 := by kernel_rfl
@[simp] theorem Try.by66 : bytesOf Try.prog 66 = some 24 := by kernel_rfl
@[simp] theorem Try.ze66 : zeroOf Try.prog 66 = some (.agg #[(.int .i64 0), (.int .i64 0), (.int .i64 0)]) := by kernel_rfl
attribute [simp] Try.underlying66
@[simp] theorem Try.ag67 : aggB Try.prog 67 = some false := by kernel_rfl
@[simp] theorem Try.sz67 : szOf Try.prog 67 = some 1 := by kernel_rfl
@[simp] theorem Try.by67 : bytesOf Try.prog 67 = some 8 := by kernel_rfl
@[simp] theorem Try.ze67 : zeroOf Try.prog 67 = some (.nilFunc) := by kernel_rfl
attribute [simp] Try.underlying67
@[simp] theorem Try.ag68 : aggB Try.prog 68 = some true := by kernel_rfl
@[simp] theorem Try.sz68 : szOf Try.prog 68 = some 2 := by kernel_rfl
@[simp] theorem Try.by68 : bytesOf Try.prog 68 = some 16 := by kernel_rfl
@[simp] theorem Try.ze68 : zeroOf Try.prog 68 = some (.agg #[(.int .i64 0), (.int .i64 0)]) := by kernel_rfl
attribute [simp] Try.underlying68
@[simp] theorem Try.ag69 : aggB Try.prog 69 = some true := by kernel_rfl
@[simp] theorem Try.sz69 : szOf Try.prog 69 = some 2 := by kernel_rfl
@[simp] theorem Try.by69 : bytesOf Try.prog 69 = some 16 := by kernel_rfl
@[simp] theorem Try.ze69 : zeroOf Try.prog 69 = some (.agg #[(.int .i64 0), (.int .i64 0)]) := by kernel_rfl
attribute [simp] Try.underlying69
@[simp] theorem Try.ag71 : aggB Try.prog 71 = some false := by kernel_rfl
@[simp] theorem Try.sz71 : szOf Try.prog 71 = some 1 := by kernel_rfl
@[simp] theorem Try.by71 : bytesOf Try.prog 71 = some 8 := by kernel_rfl
@[simp] theorem Try.ze71 : zeroOf Try.prog 71 = some (.nilFunc) := by kernel_rfl
attribute [simp] Try.underlying71
@[simp] theorem Try.ag72 : aggB Try.prog 72 = some true := by kernel_rfl
@[simp] theorem Try.sz72 : szOf Try.prog 72 = some 3 := by kernel_rfl
@[simp] theorem Try.by72 : bytesOf Try.prog 72 = some 24 := by kernel_rfl
@[simp] theorem Try.ze72 : zeroOf Try.prog 72 = some (.agg #[(.int .i64 0), (.int .i64 0), (.int .i64 0)]) := by kernel_rfl
attribute [simp] Try.underlying72
@[simp] theorem Try.ag73 : aggB Try.prog 73 = some false := by kernel_rfl
@[simp] theorem Try.sz73 : szOf Try.prog 73 = some 1 := by kernel_rfl
@[simp] theorem Try.by73 : bytesOf Try.prog 73 = some 8 := by kernel_rfl
@[simp] theorem Try.ze73 : zeroOf Try.prog 73 = some (.nilFunc) := by kernel_rfl
attribute [simp] Try.underlying73
@[simp] theorem Try.ag75 : aggB Try.prog 75 = some false := by kernel_rfl
@[simp] theorem Try.sz75 : szOf Try.prog 75 = some 1 := by kernel_rfl
@[simp] theorem Try.by75 : bytesOf Try.prog 75 = some 8 := by kernel_rfl
@[simp] theorem Try.ze75 : zeroOf Try.prog 75 = some (.nilFunc) := by kernel_rfl
attribute [simp] Try.underlying75
@[simp] theorem Try.ag76 : aggB Try.prog 76 = some false := by kernel_rfl
@[simp] theorem Try.sz76 : szOf Try.prog 76 = some 1 := by kernel_rfl
@[simp] theorem Try.by76 : bytesOf Try.prog 76 = some 8 := by kernel_rfl
@[simp] theorem Try.ze76 : zeroOf Try.prog 76 = some (.nilFunc) := by kernel_rfl
attribute [simp] Try.underlying76
@[simp] theorem Try.ag77 : aggB Try.prog 77 = some false := by kernel_rfl
@[simp] theorem Try.sz77 : szOf Try.prog 77 = some 1 := by kernel_rfl
@[simp] theorem Try.by77 : bytesOf Try.prog 77 = some 8 := by kernel_rfl
@[simp] theorem Try.ze77 : zeroOf Try.prog 77 = some (.nilFunc) := by kernel_rfl
attribute [simp] Try.underlying77
@[simp] theorem Try.ag78 : aggB Try.prog 78 = some false := by kernel_rfl
@[simp] theorem Try.sz78 : szOf Try.prog 78 = some 1 := by kernel_rfl
@[simp] theorem Try.by78 : bytesOf Try.prog 78 = some 8 := by kernel_rfl
@[simp] theorem Try.ze78 : zeroOf Try.prog 78 = some (.nilFunc) := by kernel_rfl
attribute [simp] Try.underlying78
@[simp] theorem Try.ag79 : aggB Try.prog 79 = some false := by kernel_rfl
@[simp] theorem Try.sz79 : szOf Try.prog 79 = some 1 := by kernel_rfl
@[simp] theorem Try.by79 : bytesOf Try.prog 79 = some 8 := by kernel_rfl
@[simp] theorem Try.ze79 : zeroOf Try.prog 79 = some (.nilFunc) := by kernel_rfl
attribute [simp] Try.underlying79
@[simp] theorem Try.ag80 : aggB Try.prog 80 = some false := by kernel_rfl
@[simp] theorem Try.sz80 : szOf Try.prog 80 = some 1 := by kernel_rfl
@[simp] theorem Try.by80 : bytesOf Try.prog 80 = some 8 := by kernel_rfl
@[simp] theorem Try.ze80 : zeroOf Try.prog 80 = some (.nilFunc) := by kernel_rfl
attribute [simp] Try.underlying80
@[simp] theorem Try.ag81 : aggB Try.prog 81 = some false := by kernel_rfl
@[simp] theorem Try.sz81 : szOf Try.prog 81 = some 1 := by kernel_rfl
@[simp] theorem Try.by81 : bytesOf Try.prog 81 = some 8 := by kernel_rfl
@[simp] theorem Try.ze81 : zeroOf Try.prog 81 = some (.nilFunc) := by kernel_rfl
attribute [simp] Try.underlying81
@[simp] theorem Try.ag82 : aggB Try.prog 82 = some false := by kernel_rfl
@[simp] theorem Try.sz82 : szOf Try.prog 82 = some 1 := by kernel_rfl
@[simp] theorem Try.by82 : bytesOf Try.prog 82 = some 24 := by kernel_rfl
@[simp] theorem Try.ze82 : zeroOf Try.prog 82 = some (.slice none 0 0) := by kernel_rfl
attribute [simp] Try.underlying82
@[simp] theorem Try.ag83 : aggB Try.prog 83 = some false := by kernel_rfl
@[simp] theorem Try.sz83 : szOf Try.prog 83 = some 1 := by kernel_rfl
@[simp] theorem Try.by83 : bytesOf Try.prog 83 = some 8 := by kernel_rfl
@[simp] theorem Try.ze83 : zeroOf Try.prog 83 = some (.nilFunc) := by kernel_rfl
attribute [simp] Try.underlying83
@[simp] theorem Try.ag84 : aggB Try.prog 84 = some true := by kernel_rfl
@[simp] theorem Try.sz84 : szOf Try.prog 84 = some 5 := by kernel_rfl
@[simp] theorem Try.by84 : bytesOf Try.prog 84 = some 64 := by kernel_rfl
@[simp] theorem Try.ze84 : zeroOf Try.prog 84 = some (.agg #[(.string ⟨#[]⟩), (.slice none 0 0), (.int .i64 0), (.int .i64 0), (.int .i64 0)]) := by kernel_rfl
attribute [simp] Try.underlying84
@[simp] theorem Try.ag85 : aggB Try.prog 85 = some false := by kernel_rfl
@[simp] theorem Try.sz85 : szOf Try.prog 85 = some 1 := by kernel_rfl
@[simp] theorem Try.by85 : bytesOf Try.prog 85 = some 8 := by kernel_rfl
@[simp] theorem Try.ze85 : zeroOf Try.prog 85 = some (.nilFunc) := by kernel_rfl
attribute [simp] Try.underlying85
@[simp] theorem Try.ag86 : aggB Try.prog 86 = some true := by kernel_rfl
@[simp] theorem Try.sz86 : szOf Try.prog 86 = some 4 := by kernel_rfl
@[simp] theorem Try.by86 : bytesOf Try.prog 86 = some 32 := by kernel_rfl
@[simp] theorem Try.ze86 : zeroOf Try.prog 86 = some (.agg #[(.string ⟨#[]⟩), (.int .i64 0), (.bool false), (.bool false)]) := by kernel_rfl
attribute [simp] Try.underlying86
@[simp] theorem Try.ag87 : aggB Try.prog 87 = some true := by kernel_rfl
@[simp] theorem Try.sz87 : szOf Try.prog 87 = some 4 := by kernel_rfl
@[simp] theorem Try.by87 : bytesOf Try.prog 87 = some 32 := by kernel_rfl
@[simp] theorem Try.ze87 : zeroOf Try.prog 87 = some (.agg #[(.string ⟨#[]⟩), (.int .i64 0), (.bool false), (.bool false)]) := by kernel_rfl
attribute [simp] Try.underlying87
@[simp] theorem Try.ag88 : aggB Try.prog 88 = some false := by kernel_rfl
@[simp] theorem Try.sz88 : szOf Try.prog 88 = some 1 := by kernel_rfl
@[simp] theorem Try.by88 : bytesOf Try.prog 88 = some 24 := by kernel_rfl
@[simp] theorem Try.ze88 : zeroOf Try.prog 88 = some (.slice none 0 0) := by kernel_rfl
attribute [simp] Try.underlying88
@[simp] theorem Try.ag89 : aggB Try.prog 89 = some true := by kernel_rfl
@[simp] theorem Try.sz89 : szOf Try.prog 89 = some 5 := by kernel_rfl
@[simp] theorem Try.by89 : bytesOf Try.prog 89 = some 56 := by kernel_rfl
@[simp] theorem Try.ze89 : zeroOf Try.prog 89 = some (.agg #[(.slice none 0 0), (.int .i64 0), (.int .i64 0), (.int .i64 0), (.int .i64 0)]) := by kernel_rfl
attribute [simp] Try.underlying89
@[simp] theorem Try.ag90 : aggB Try.prog 90 = some true := by kernel_rfl
@[simp] theorem Try.sz90 : szOf Try.prog 90 = some 5 := by kernel_rfl
@[simp] theorem Try.by90 : bytesOf Try.prog 90 = some 56 := by kernel_rfl
@[simp] theorem Try.ze90 : zeroOf Try.prog 90 = some (.agg #[(.slice none 0 0), (.int .i64 0), (.int .i64 0), (.int .i64 0), (.int .i64 0)]) := by kernel_rfl
attribute [simp] Try.underlying90
@[simp] theorem Try.ag91 : aggB Try.prog 91 = some false := by kernel_rfl
@[simp] theorem Try.sz91 : szOf Try.prog 91 = some 1 := by kernel_rfl
@[simp] theorem Try.by91 : bytesOf Try.prog 91 = some 8 := by kernel_rfl
@[simp] theorem Try.ze91 : zeroOf Try.prog 91 = some (.nilFunc) := by kernel_rfl
attribute [simp] Try.underlying91
@[simp] theorem Try.ag92 : aggB Try.prog 92 = some true := by kernel_rfl
@[simp] theorem Try.sz92 : szOf Try.prog 92 = some 3 := by kernel_rfl
@[simp] theorem Try.by92 : bytesOf Try.prog 92 = some 40 := by kernel_rfl
@[simp] theorem Try.ze92 : zeroOf Try.prog 92 = some (.agg #[(.slice none 0 0), (.int .i64 0), (.int .i64 0)]) := by kernel_rfl
attribute [simp] Try.underlying92
@[simp] theorem Try.ag93 : aggB Try.prog 93 = some true := by kernel_rfl
@[simp] theorem Try.sz93 : szOf Try.prog 93 = some 3 := by kernel_rfl
@[simp] theorem Try.by93 : bytesOf Try.prog 93 = some 40 := by kernel_rfl
@[simp] theorem Try.ze93 : zeroOf Try.prog 93 = some (.agg #[(.slice none 0 0), (.int .i64 0), (.int .i64 0)]) := by kernel_rfl
attribute [simp] Try.underlying93
@[simp] theorem Try.ag94 : aggB Try.prog 94 = some false := by kernel_rfl
@[simp] theorem Try.sz94 : szOf Try.prog 94 = some 1 := by kernel_rfl
@[simp] theorem Try.by94 : bytesOf Try.prog 94 = some 8 := by kernel_rfl
@[simp] theorem Try.ze94 : zeroOf Try.prog 94 = some (.nilFunc) := by kernel_rfl
attribute [simp] Try.underlying94
@[simp] theorem Try.ag95 : aggB Try.prog 95 = some false := by kernel_rfl
@[simp] theorem Try.sz95 : szOf Try.prog 95 = some 1 := by kernel_rfl
@[simp] theorem Try.by95 : bytesOf Try.prog 95 = some 8 := by kernel_rfl
@[simp] theorem Try.ze95 : zeroOf Try.prog 95 = some (.nilFunc) := by kernel_rfl
attribute [simp] Try.underlying95
@[simp] theorem Try.ag96 : aggB Try.prog 96 = some false := by kernel_rfl
@[simp] theorem Try.sz96 : szOf Try.prog 96 = some 1 := by kernel_rfl
@[simp] theorem Try.by96 : bytesOf Try.prog 96 = some 8 := by kernel_rfl
@[simp] theorem Try.ze96 : zeroOf Try.prog 96 = some (.nilFunc) := by kernel_rfl
attribute [simp] Try.underlying96
@[simp] theorem Try.ag97 : aggB Try.prog 97 = some false := by kernel_rfl
@[simp] theorem Try.sz97 : szOf Try.prog 97 = some 1 := by kernel_rfl
@[simp] theorem Try.by97 : bytesOf Try.prog 97 = some 8 := by kernel_rfl
@[simp] theorem Try.ze97 : zeroOf Try.prog 97 = some (.nilFunc) := by kernel_rfl
attribute [simp] Try.underlying97
@[simp] theorem Try.ag98 : aggB Try.prog 98 = some false := by kernel_rfl
@[simp] theorem Try.sz98 : szOf Try.prog 98 = some 1 := by kernel_rfl
@[simp] theorem Try.by98 : bytesOf Try.prog 98 = some 8 := by kernel_rfl
@[simp] theorem Try.ze98 : zeroOf Try.prog 98 = some (.nilFunc) := by kernel_rfl
attribute [simp] Try.underlying98
@[simp] theorem Try.ag99 : aggB Try.prog 99 = some false := by kernel_rfl
@[simp] theorem Try.sz99 : szOf Try.prog 99 = some 1 := by kernel_rfl
@[simp] theorem Try.by99 : bytesOf Try.prog 99 = some 8 := by kernel_rfl
@[simp] theorem Try.ze99 : zeroOf Try.prog 99 = some (.nilFunc) := by kernel_rfl
attribute [simp] Try.underlying99
@[simp] theorem Try.ag100 : aggB Try.prog 100 = some false := by kernel_rfl
@[simp] theorem Try.sz100 : szOf Try.prog 100 = some 1 := by kernel_rfl
@[simp] theorem Try.by100 : bytesOf Try.prog 100 = some 8 := by kernel_rfl
@[simp] theorem Try.ze100 : zeroOf Try.prog 100 = some (.nilFunc) := by kernel_rfl
attribute [simp] Try.underlying100
@[simp] theorem Try.ag101 : aggB Try.prog 101 = some false := by kernel_rfl
@[simp] theorem Try.sz101 : szOf Try.prog 101 = some 1 := by kernel_rfl
@[simp] theorem Try.by101 : bytesOf Try.prog 101 = some 8 := by kernel_rfl
@[simp] theorem Try.ze101 : zeroOf Try.prog 101 = some (.nilFunc) := by kernel_rfl
attribute [simp] Try.underlying101
@[simp] theorem Try.ag102 : aggB Try.prog 102 = some false := by kernel_rfl
@[simp] theorem Try.sz102 : szOf Try.prog 102 = some 1 := by kernel_rfl
@[simp] theorem Try.by102 : bytesOf Try.prog 102 = some 24 := by kernel_rfl
@[simp] theorem Try.ze102 : zeroOf Try.prog 102 = some (.slice none 0 0) := by kernel_rfl
attribute [simp] Try.underlying102
@[simp] theorem Try.ag104 : aggB Try.prog 104 = some false := by kernel_rfl
@[simp] theorem Try.sz104 : szOf Try.prog 104 = some 1 := by kernel_rfl
@[simp] theorem Try.by104 : bytesOf Try.prog 104 = some 8 := by kernel_rfl
@[simp] theorem Try.ze104 : zeroOf Try.prog 104 = some (.nilFunc) := by kernel_rfl
attribute [simp] Try.underlying104
@[simp] theorem Try.ag105 : aggB Try.prog 105 = some true := by kernel_rfl
@[simp] theorem Try.sz105 : szOf Try.prog 105 = some 6 := by kernel_rfl
@[simp] theorem Try.by105 : bytesOf Try.prog 105 = some 72 := by kernel_rfl
@[simp] theorem Try.ze105 : zeroOf Try.prog 105 = some (.agg #[(.string ⟨#[]⟩), (.slice none 0 0), (.int .i64 0), (.int .i64 0), (.int .i64 0), (.int .i64 0)]) := by kernel_rfl
attribute [simp] Try.underlying105
@[simp] theorem Try.ag106 : aggB Try.prog 106 = some true := by kernel_rfl
@[simp] theorem Try.sz106 : szOf Try.prog 106 = some 6 := by kernel_rfl
@[simp] theorem Try.by106 : bytesOf Try.prog 106 = some 72 := by kernel_rfl
@[simp] theorem Try.ze106 : zeroOf Try.prog 106 = some (.agg #[(.string ⟨#[]⟩), (.slice none 0 0), (.int .i64 0), (.int .i64 0), (.int .i64 0), (.int .i64 0)]) := by kernel_rfl
attribute [simp] Try.underlying106
@[simp] theorem Try.ag107 : aggB Try.prog 107 = some false := by kernel_rfl
@[simp] theorem Try.sz107 : szOf Try.prog 107 = some 1 := by kernel_rfl
@[simp] theorem Try.by107 : bytesOf Try.prog 107 = some 8 := by kernel_rfl
@[simp] theorem Try.ze107 : zeroOf Try.prog 107 = some (.nilFunc) := by kernel_rfl
attribute [simp] Try.underlying107
@[simp] theorem Try.ag108 : aggB Try.prog 108 = some false := by kernel_rfl
@[simp] theorem Try.sz108 : szOf Try.prog 108 = some 1 := by kernel_rfl
@[simp] theorem Try.by108 : bytesOf Try.prog 108 = some 8 := by kernel_rfl
@[simp] theorem Try.ze108 : zeroOf Try.prog 108 = some (.nilFunc) := by kernel_rfl
attribute [simp] Try.underlying108
@[simp] theorem Try.ag109 : aggB Try.prog 109 = some false := by kernel_rfl
@[simp] theorem Try.sz109 : szOf Try.prog 109 = some 1 := by kernel_rfl
@[simp] theorem Try.by109 : bytesOf Try.prog 109 = some 8 := by kernel_rfl
@[simp] theorem Try.ze109 : zeroOf Try.prog 109 = some (.nilFunc) := by kernel_rfl
attribute [simp] Try.underlying109
@[simp] theorem Try.ag111 : aggB Try.prog 111 = some false := by kernel_rfl
@[simp] theorem Try.sz111 : szOf Try.prog 111 = some 1 := by kernel_rfl
@[simp] theorem Try.by111 : bytesOf Try.prog 111 = some 8 := by kernel_rfl
@[simp] theorem Try.ze111 : zeroOf Try.prog 111 = some (.nilFunc) := by kernel_rfl
attribute [simp] Try.underlying111
@[simp] theorem Try.ag112 : aggB Try.prog 112 = some true := by kernel_rfl
@[simp] theorem Try.sz112 : szOf Try.prog 112 = some 2 := by kernel_rfl
@[simp] theorem Try.by112 : bytesOf Try.prog 112 = some 16 := by kernel_rfl
@[simp] theorem Try.ze112 : zeroOf Try.prog 112 = some (.agg #[(.int .i64 0), (.int .i64 0)]) := by kernel_rfl
attribute [simp] Try.underlying112
@[simp] theorem Try.ag113 : aggB Try.prog 113 = some true := by kernel_rfl
@[simp] theorem Try.sz113 : szOf Try.prog 113 = some 2 := by kernel_rfl
@[simp] theorem Try.by113 : bytesOf Try.prog 113 = some 16 := by kernel_rfl
@[simp] theorem Try.ze113 : zeroOf Try.prog 113 = some (.agg #[(.int .i64 0), (.int .i64 0)]) := by kernel_rfl
attribute [simp] Try.underlying113
@[simp] theorem Try.ag114 : aggB Try.prog 114 = some false := by kernel_rfl
@[simp] theorem Try.sz114 : szOf Try.prog 114 = some 1 := by kernel_rfl
@[simp] theorem Try.by114 : bytesOf Try.prog 114 = some 24 := by kernel_rfl
@[simp] theorem Try.ze114 : zeroOf Try.prog 114 = some (.slice none 0 0) := by kernel_rfl
attribute [simp] Try.underlying114
@[simp] theorem Try.ag115 : aggB Try.prog 115 = some false := by kernel_rfl
@[simp] theorem Try.sz115 : szOf Try.prog 115 = some 1 := by kernel_rfl
@[simp] theorem Try.by115 : bytesOf Try.prog 115 = some 24 := by kernel_rfl
@[simp] theorem Try.ze115 : zeroOf Try.prog 115 = some (.slice none 0 0) := by kernel_rfl
attribute [simp] Try.underlying115
@[simp] theorem Try.ag116 : aggB Try.prog 116 = some false := by kernel_rfl
@[simp] theorem Try.sz116 : szOf Try.prog 116 = some 1 := by kernel_rfl
@[simp] theorem Try.by116 : bytesOf Try.prog 116 = some 24 := by kernel_rfl
@[simp] theorem Try.ze116 : zeroOf Try.prog 116 = some (.slice none 0 0) := by kernel_rfl
attribute [simp] Try.underlying116
@[simp] theorem Try.ag117 : aggB Try.prog 117 = some true := by kernel_rfl
@[simp] theorem Try.sz117 : szOf Try.prog 117 = some 2 := by kernel_rfl
@[simp] theorem Try.by117 : bytesOf Try.prog 117 = some 16 := by kernel_rfl
@[simp] theorem Try.ze117 : zeroOf Try.prog 117 = some (.agg #[(.int .i64 0), (.int .i64 0)]) := by kernel_rfl
attribute [simp] Try.underlying117
@[simp] theorem Try.ag118 : aggB Try.prog 118 = some true := by kernel_rfl
@[simp] theorem Try.sz118 : szOf Try.prog 118 = some 2 := by kernel_rfl
@[simp] theorem Try.by118 : bytesOf Try.prog 118 = some 16 := by kernel_rfl
@[simp] theorem Try.ze118 : zeroOf Try.prog 118 = some (.agg #[(.int .i64 0), (.int .i64 0)]) := by kernel_rfl
attribute [simp] Try.underlying118
@[simp] theorem Try.ag120 : aggB Try.prog 120 = some false := by kernel_rfl
@[simp] theorem Try.sz120 : szOf Try.prog 120 = some 1 := by kernel_rfl
@[simp] theorem Try.by120 : bytesOf Try.prog 120 = some 8 := by kernel_rfl
@[simp] theorem Try.ze120 : zeroOf Try.prog 120 = some (.nilFunc) := by kernel_rfl
attribute [simp] Try.underlying120
@[simp] theorem Try.ag121 : aggB Try.prog 121 = some false := by kernel_rfl
@[simp] theorem Try.sz121 : szOf Try.prog 121 = some 1 := by kernel_rfl
@[simp] theorem Try.by121 : bytesOf Try.prog 121 = some 8 := by kernel_rfl
@[simp] theorem Try.ze121 : zeroOf Try.prog 121 = some (.nilFunc) := by kernel_rfl
attribute [simp] Try.underlying121
@[simp] theorem Try.ag122 : aggB Try.prog 122 = some false := by kernel_rfl
@[simp] theorem Try.sz122 : szOf Try.prog 122 = some 1 := by kernel_rfl
@[simp] theorem Try.by122 : bytesOf Try.prog 122 = some 24 := by kernel_rfl
@[simp] theorem Try.ze122 : zeroOf Try.prog 122 = some (.slice none 0 0) := by kernel_rfl
attribute [simp] Try.underlying122
@[simp] theorem Try.ag123 : aggB Try.prog 123 = some false := by kernel_rfl
@[simp] theorem Try.sz123 : szOf Try.prog 123 = some 1 := by kernel_rfl
@[simp] theorem Try.by123 : bytesOf Try.prog 123 = some 8 := by kernel_rfl
@[simp] theorem Try.ze123 : zeroOf Try.prog 123 = some (.nilFunc) := by kernel_rfl
attribute [simp] Try.underlying123
@[simp] theorem Try.ag124 : aggB Try.prog 124 = some false := by kernel_rfl
@[simp] theorem Try.sz124 : szOf Try.prog 124 = some 1 := by kernel_rfl
@[simp] theorem Try.by124 : bytesOf Try.prog 124 = some 8 := by kernel_rfl
@[simp] theorem Try.ze124 : zeroOf Try.prog 124 = some (.map none) := by kernel_rfl
attribute [simp] Try.underlying124
@[simp] theorem Try.ag125 : aggB Try.prog 125 = some false := by kernel_rfl
@[simp] theorem Try.sz125 : szOf Try.prog 125 = some 1 := by kernel_rfl
@[simp] theorem Try.by125 : bytesOf Try.prog 125 = some 8 := by kernel_rfl
@[simp] theorem Try.ze125 : zeroOf Try.prog 125 = some (.nilFunc) := by kernel_rfl
attribute [simp] Try.underlying125
@[simp] theorem Try.ag126 : aggB Try.prog 126 = some false := by kernel_rfl
@[simp] theorem Try.sz126 : szOf Try.prog 126 = some 1 := by kernel_rfl
@[simp] theorem Try.by126 : bytesOf Try.prog 126 = some 8 := by kernel_rfl
@[simp] theorem Try.ze126 : zeroOf Try.prog 126 = some (.nilFunc) := by kernel_rfl
attribute [simp] Try.underlying126
@[simp] theorem Try.ag127 : aggB Try.prog 127 = some false := by kernel_rfl
@[simp] theorem Try.sz127 : szOf Try.prog 127 = some 1 := by kernel_rfl
@[simp] theorem Try.by127 : bytesOf Try.prog 127 = some 8 := by kernel_rfl
@[simp] theorem Try.ze127 : zeroOf Try.prog 127 = some (.nilFunc) := by kernel_rfl
attribute [simp] Try.underlying127
@[simp] theorem Try.ag128 : aggB Try.prog 128 = some false := by kernel_rfl
@[simp] theorem Try.sz128 : szOf Try.prog 128 = some 1 := by kernel_rfl
@[simp] theorem Try.by128 : bytesOf Try.prog 128 = some 8 := by kernel_rfl
@[simp] theorem Try.ze128 : zeroOf Try.prog 128 = some (.nilFunc) := by kernel_rfl
attribute [simp] Try.underlying128
@[simp] theorem Try.ag129 : aggB Try.prog 129 = some false := by kernel_rfl
@[simp] theorem Try.sz129 : szOf Try.prog 129 = some 1 := by kernel_rfl
@[simp] theorem Try.by129 : bytesOf Try.prog 129 = some 8 := by kernel_rfl
@[simp] theorem Try.ze129 : zeroOf Try.prog 129 = some (.nilFunc) := by kernel_rfl
attribute [simp] Try.underlying129
@[simp] theorem Try.ag130 : aggB Try.prog 130 = some false := by kernel_rfl
@[simp] theorem Try.sz130 : szOf Try.prog 130 = some 1 := by kernel_rfl
@[simp] theorem Try.by130 : bytesOf Try.prog 130 = some 8 := by kernel_rfl
@[simp] theorem Try.ze130 : zeroOf Try.prog 130 = some (.nilFunc) := by kernel_rfl
attribute [simp] Try.underlying130
@[simp] theorem Try.ag131 : aggB Try.prog 131 = some false := by kernel_rfl
@[simp] theorem Try.sz131 : szOf Try.prog 131 = some 1 := by kernel_rfl
@[simp] theorem Try.by131 : bytesOf Try.prog 131 = some 8 := by kernel_rfl
@[simp] theorem Try.ze131 : zeroOf Try.prog 131 = some (.nilFunc) := by kernel_rfl
attribute [simp] Try.underlying131
@[simp] theorem Try.ag132 : aggB Try.prog 132 = some false := by kernel_rfl
@[simp] theorem Try.sz132 : szOf Try.prog 132 = some 1 := by kernel_rfl
@[simp] theorem Try.by132 : bytesOf Try.prog 132 = some 8 := by kernel_rfl
@[simp] theorem Try.ze132 : zeroOf Try.prog 132 = some (.nilFunc) := by kernel_rfl
attribute [simp] Try.underlying132
@[simp] theorem Try.ag133 : aggB Try.prog 133 = some false := by kernel_rfl
@[simp] theorem Try.sz133 : szOf Try.prog 133 = some 1 := by kernel_rfl
@[simp] theorem Try.by133 : bytesOf Try.prog 133 = some 8 := by kernel_rfl
@[simp] theorem Try.ze133 : zeroOf Try.prog 133 = some (.nilFunc) := by kernel_rfl
attribute [simp] Try.underlying133
@[simp] theorem Try.ag134 : aggB Try.prog 134 = some false := by kernel_rfl
@[simp] theorem Try.sz134 : szOf Try.prog 134 = some 1 := by kernel_rfl
@[simp] theorem Try.by134 : bytesOf Try.prog 134 = some 8 := by kernel_rfl
@[simp] theorem Try.ze134 : zeroOf Try.prog 134 = some (.nilFunc) := by kernel_rfl
attribute [simp] Try.underlying134
@[simp] theorem Try.ag135 : aggB Try.prog 135 = some false := by kernel_rfl
@[simp] theorem Try.sz135 : szOf Try.prog 135 = some 1 := by kernel_rfl
@[simp] theorem Try.by135 : bytesOf Try.prog 135 = some 24 := by kernel_rfl
@[simp] theorem Try.ze135 : zeroOf Try.prog 135 = some (.slice none 0 0) := by kernel_rfl
attribute [simp] Try.underlying135
@[simp] theorem Try.ag136 : aggB Try.prog 136 = some false := by kernel_rfl
@[simp] theorem Try.sz136 : szOf Try.prog 136 = some 1 := by kernel_rfl
@[simp] theorem Try.by136 : bytesOf Try.prog 136 = some 8 := by kernel_rfl
@[simp] theorem Try.ze136 : zeroOf Try.prog 136 = some (.nilFunc) := by kernel_rfl
attribute [simp] Try.underlying136
@[simp] theorem Try.ag137 : aggB Try.prog 137 = some false := by kernel_rfl
@[simp] theorem Try.sz137 : szOf Try.prog 137 = some 1 := by kernel_rfl
@[simp] theorem Try.by137 : bytesOf Try.prog 137 = some 24 := by kernel_rfl
@[simp] theorem Try.ze137 : zeroOf Try.prog 137 = some (.slice none 0 0) := by kernel_rfl
attribute [simp] Try.underlying137
@[simp] theorem Try.ag138 : aggB Try.prog 138 = some false := by kernel_rfl
@[simp] theorem Try.sz138 : szOf Try.prog 138 = some 1 := by kernel_rfl
@[simp] theorem Try.by138 : bytesOf Try.prog 138 = some 8 := by kernel_rfl
@[simp] theorem Try.ze138 : zeroOf Try.prog 138 = some (.nilFunc) := by kernel_rfl
attribute [simp] Try.underlying138
@[simp] theorem Try.ag139 : aggB Try.prog 139 = some true := by kernel_rfl
@[simp] theorem Try.sz139 : szOf Try.prog 139 = some 4 := by kernel_rfl
@[simp] theorem Try.by139 : bytesOf Try.prog 139 = some 32 := by kernel_rfl
@[simp] theorem Try.ze139 : zeroOf Try.prog 139 = some (.agg #[(.int .i64 0), (.int .i64 0), (.int .i64 0), (.int .i64 0)]) := by kernel_rfl
attribute [simp] Try.underlying139
@[simp] theorem Try.ag140 : aggB Try.prog 140 = some true := by kernel_rfl
@[simp] theorem Try.sz140 : szOf Try.prog 140 = some 4 := by kernel_rfl
@[simp] theorem Try.by140 : bytesOf Try.prog 140 = some 32 := by kernel_rfl
@[simp] theorem Try.ze140 : zeroOf Try.prog 140 = some (.agg #[(.int .i64 0), (.int .i64 0), (.int .i64 0), (.int .i64 0)]) := by kernel_rfl
attribute [simp] Try.underlying140
@[simp] theorem Try.ag141 : aggB Try.prog 141 = some false := by kernel_rfl
@[simp] theorem Try.sz141 : szOf Try.prog 141 = some 1 := by kernel_rfl
@[simp] theorem Try.by141 : bytesOf Try.prog 141 = some 8 := by kernel_rfl
@[simp] theorem Try.ze141 : zeroOf Try.prog 141 = some (.nilFunc) := by kernel_rfl
attribute [simp] Try.underlying141
@[simp] theorem Try.ag142 : aggB Try.prog 142 = some false := by kernel_rfl
@[simp] theorem Try.sz142 : szOf Try.prog 142 = some 1 := by kernel_rfl
@[simp] theorem Try.by142 : bytesOf Try.prog 142 = some 8 := by kernel_rfl
@[simp] theorem Try.ze142 : zeroOf Try.prog 142 = some (.nilFunc) := by kernel_rfl
attribute [simp] Try.underlying142
@[simp] theorem Try.ag143 : aggB Try.prog 143 = some false := by kernel_rfl
@[simp] theorem Try.sz143 : szOf Try.prog 143 = some 1 := by kernel_rfl
@[simp] theorem Try.by143 : bytesOf Try.prog 143 = some 8 := by kernel_rfl
@[simp] theorem Try.ze143 : zeroOf Try.prog 143 = some (.nilFunc) := by kernel_rfl
attribute [simp] Try.underlying143
@[simp] theorem Try.ag144 : aggB Try.prog 144 = some false := by kernel_rfl
@[simp] theorem Try.sz144 : szOf Try.prog 144 = some 1 := by kernel_rfl
@[simp] theorem Try.by144 : bytesOf Try.prog 144 = some 8 := by kernel_rfl
@[simp] theorem Try.ze144 : zeroOf Try.prog 144 = some (.nilFunc) := by kernel_rfl
attribute [simp] Try.underlying144
@[simp] theorem Try.ag145 : aggB Try.prog 145 = some false := by kernel_rfl
@[simp] theorem Try.sz145 : szOf Try.prog 145 = some 1 := by kernel_rfl
@[simp] theorem Try.by145 : bytesOf Try.prog 145 = some 8 := by kernel_rfl
@[simp] theorem Try.ze145 : zeroOf Try.prog 145 = some (.nilFunc) := by kernel_rfl
attribute [simp] Try.underlying145
@[simp] theorem Try.ag146 : aggB Try.prog 146 = some false := by kernel_rfl
@[simp] theorem Try.sz146 : szOf Try.prog 146 = some 1 := by kernel_rfl
@[simp] theorem Try.by146 : bytesOf Try.prog 146 = some 8 := by kernel_rfl
@[simp] theorem Try.ze146 : zeroOf Try.prog 146 = some (.nilFunc) := by kernel_rfl
attribute [simp] Try.underlying146
@[simp] theorem Try.ag147 : aggB Try.prog 147 = some true := by kernel_rfl
@[simp] theorem Try.sz147 : szOf Try.prog 147 = some 2 := by kernel_rfl
@[simp] theorem Try.by147 : bytesOf Try.prog 147 = some 16 := by kernel_rfl
@[simp] theorem Try.ze147 : zeroOf Try.prog 147 = some (.agg #[(.int .i64 0), (.int .i64 0)]) := by kernel_rfl
attribute [simp] Try.underlying147
@[simp] theorem Try.ag148 : aggB Try.prog 148 = some false := by kernel_rfl
@[simp] theorem Try.sz148 : szOf Try.prog 148 = some 1 := by kernel_rfl
@[simp] theorem Try.by148 : bytesOf Try.prog 148 = some 8 := by kernel_rfl
@[simp] theorem Try.ze148 : zeroOf Try.prog 148 = some (.nilFunc) := by kernel_rfl
attribute [simp] Try.underlying148
@[simp] theorem Try.ag149 : aggB Try.prog 149 = some false := by kernel_rfl
@[simp] theorem Try.sz149 : szOf Try.prog 149 = some 1 := by kernel_rfl
@[simp] theorem Try.by149 : bytesOf Try.prog 149 = some 8 := by kernel_rfl
@[simp] theorem Try.ze149 : zeroOf Try.prog 149 = some (.nilFunc) := by kernel_rfl
attribute [simp] Try.underlying149
@[simp] theorem Try.ag150 : aggB Try.prog 150 = some false := by kernel_rfl
@[simp] theorem Try.sz150 : szOf Try.prog 150 = some 1 := by kernel_rfl
@[simp] theorem Try.by150 : bytesOf Try.prog 150 = some 8 := by kernel_rfl
@[simp] theorem Try.ze150 : zeroOf Try.prog 150 = some (.nilFunc) := by kernel_rfl
attribute [simp] Try.underlying150
@[simp] theorem Try.ag151 : aggB Try.prog 151 = some false := by kernel_rfl
@[simp] theorem Try.sz151 : szOf Try.prog 151 = some 1 := by kernel_rfl
@[simp] theorem Try.by151 : bytesOf Try.prog 151 = some 8 := by kernel_rfl
@[simp] theorem Try.ze151 : zeroOf Try.prog 151 = some (.nilFunc) := by kernel_rfl
attribute [simp] Try.underlying151
@[simp] theorem Try.ag152 : aggB Try.prog 152 = some false := by kernel_rfl
@[simp] theorem Try.sz152 : szOf Try.prog 152 = some 1 := by kernel_rfl
@[simp] theorem Try.by152 : bytesOf Try.prog 152 = some 8 := by kernel_rfl
@[simp] theorem Try.ze152 : zeroOf Try.prog 152 = some (.nilFunc) := by kernel_rfl
attribute [simp] Try.underlying152
@[simp] theorem Try.ag153 : aggB Try.prog 153 = some false := by kernel_rfl
@[simp] theorem Try.sz153 : szOf Try.prog 153 = some 1 := by kernel_rfl
@[simp] theorem Try.by153 : bytesOf Try.prog 153 = some 8 := by kernel_rfl
@[simp] theorem Try.ze153 : zeroOf Try.prog 153 = some (.nilFunc) := by kernel_rfl
attribute [simp] Try.underlying153
@[simp] theorem Try.ag154 : aggB Try.prog 154 = some false := by kernel_rfl
@[simp] theorem Try.sz154 : szOf Try.prog 154 = some 1 := by kernel_rfl
@[simp] theorem Try.by154 : bytesOf Try.prog 154 = some 8 := by kernel_rfl
@[simp] theorem Try.ze154 : zeroOf Try.prog 154 = some (.nilFunc) := by kernel_rfl
attribute [simp] Try.underlying154
@[simp] theorem Try.ag155 : aggB Try.prog 155 = some false := by kernel_rfl
@[simp] theorem Try.sz155 : szOf Try.prog 155 = some 1 := by kernel_rfl
@[simp] theorem Try.by155 : bytesOf Try.prog 155 = some 8 := by kernel_rfl
@[simp] theorem Try.ze155 : zeroOf Try.prog 155 = some (.nilFunc) := by kernel_rfl
attribute [simp] Try.underlying155
@[simp] theorem Try.ag156 : aggB Try.prog 156 = some false := by kernel_rfl
@[simp] theorem Try.sz156 : szOf Try.prog 156 = some 1 := by kernel_rfl
@[simp] theorem Try.by156 : bytesOf Try.prog 156 = some 8 := by kernel_rfl
@[simp] theorem Try.ze156 : zeroOf Try.prog 156 = some (.nilFunc) := by kernel_rfl
attribute [simp] Try.underlying156
@[simp] theorem Try.ag157 : aggB Try.prog 157 = some false := by kernel_rfl
@[simp] theorem Try.sz157 : szOf Try.prog 157 = some 1 := by kernel_rfl
@[simp] theorem Try.by157 : bytesOf Try.prog 157 = some 24 := by kernel_rfl
@[simp] theorem Try.ze157 : zeroOf Try.prog 157 = some (.slice none 0 0) := by kernel_rfl
attribute [simp] Try.underlying157
@[simp] theorem Try.ag158 : aggB Try.prog 158 = some false := by kernel_rfl
@[simp] theorem Try.sz158 : szOf Try.prog 158 = some 1 := by kernel_rfl
@[simp] theorem Try.by158 : bytesOf Try.prog 158 = some 8 := by kernel_rfl
@[simp] theorem Try.ze158 : zeroOf Try.prog 158 = some (.map none) := by kernel_rfl
attribute [simp] Try.underlying158
@[simp] theorem Try.ag160 : aggB Try.prog 160 = some false := by kernel_rfl
@[simp] theorem Try.sz160 : szOf Try.prog 160 = some 1 := by kernel_rfl
@[simp] theorem Try.by160 : bytesOf Try.prog 160 = some 8 := by kernel_rfl
@[simp] theorem Try.ze160 : zeroOf Try.prog 160 = some (.nilFunc) := by kernel_rfl
attribute [simp] Try.underlying160
@[simp] theorem Try.ag161 : aggB Try.prog 161 = some false := by kernel_rfl
@[simp] theorem Try.sz161 : szOf Try.prog 161 = some 1 := by kernel_rfl
@[simp] theorem Try.by161 : bytesOf Try.prog 161 = some 8 := by kernel_rfl
@[simp] theorem Try.ze161 : zeroOf Try.prog 161 = some (.nilFunc) := by kernel_rfl
attribute [simp] Try.underlying161
@[simp] theorem Try.ag162 : aggB Try.prog 162 = some false := by kernel_rfl
@[simp] theorem Try.sz162 : szOf Try.prog 162 = some 1 := by kernel_rfl
@[simp] theorem Try.by162 : bytesOf Try.prog 162 = some 8 := by kernel_rfl
@[simp] theorem Try.ze162 : zeroOf Try.prog 162 = some (.nilFunc) := by kernel_rfl
attribute [simp] Try.underlying162
@[simp] theorem Try.ag163 : aggB Try.prog 163 = some false := by kernel_rfl
@[simp] theorem Try.sz163 : szOf Try.prog 163 = some 1 := by kernel_rfl
@[simp] theorem Try.by163 : bytesOf Try.prog 163 = some 8 := by kernel_rfl
@[simp] theorem Try.ze163 : zeroOf Try.prog 163 = some (.nilFunc) := by kernel_rfl
attribute [simp] Try.underlying163
@[simp] theorem Try.ag164 : aggB Try.prog 164 = some false := by kernel_rfl
@[simp] theorem Try.sz164 : szOf Try.prog 164 = some 1 := by kernel_rfl
@[simp] theorem Try.by164 : bytesOf Try.prog 164 = some 8 := by kernel_rfl
@[simp] theorem Try.ze164 : zeroOf Try.prog 164 = some (.nilFunc) := by kernel_rfl
attribute [simp] Try.underlying164
@[simp] theorem Try.ag165 : aggB Try.prog 165 = some false := by kernel_rfl
@[simp] theorem Try.sz165 : szOf Try.prog 165 = some 1 := by kernel_rfl
@[simp] theorem Try.by165 : bytesOf Try.prog 165 = some 8 := by kernel_rfl
@[simp] theorem Try.ze165 : zeroOf Try.prog 165 = some (.nilFunc) := by kernel_rfl
attribute [simp] Try.underlying165
@[simp] theorem Try.ag166 : aggB Try.prog 166 = some false := by kernel_rfl
@[simp] theorem Try.sz166 : szOf Try.prog 166 = some 1 := by kernel_rfl
@[simp] theorem Try.by166 : bytesOf Try.prog 166 = some 8 := by kernel_rfl
@[simp] theorem Try.ze166 : zeroOf Try.prog 166 = some (.nilFunc) := by kernel_rfl
attribute [simp] Try.underlying166
@[simp] theorem Try.ag167 : aggB Try.prog 167 = some false := by kernel_rfl
@[simp] theorem Try.sz167 : szOf Try.prog 167 = some 1 := by kernel_rfl
@[simp] theorem Try.by167 : bytesOf Try.prog 167 = some 8 := by kernel_rfl
@[simp] theorem Try.ze167 : zeroOf Try.prog 167 = some (.nilFunc) := by kernel_rfl
attribute [simp] Try.underlying167
@[simp] theorem Try.ag168 : aggB Try.prog 168 = some false := by kernel_rfl
@[simp] theorem Try.sz168 : szOf Try.prog 168 = some 1 := by kernel_rfl
@[simp] theorem Try.by168 : bytesOf Try.prog 168 = some 8 := by kernel_rfl
@[simp] theorem Try.ze168 : zeroOf Try.prog 168 = some (.map none) := by kernel_rfl
attribute [simp] Try.underlying168
@[simp] theorem Try.ag169 : aggB Try.prog 169 = some false := by kernel_rfl
@[simp] theorem Try.sz169 : szOf Try.prog 169 = some 1 := by kernel_rfl
@[simp] theorem Try.by169 : bytesOf Try.prog 169 = some 8 := by kernel_rfl
@[simp] theorem Try.ze169 : zeroOf Try.prog 169 = some (.nilFunc) := by kernel_rfl
attribute [simp] Try.underlying169
@[simp] theorem Try.ag170 : aggB Try.prog 170 = some false := by kernel_rfl
@[simp] theorem Try.sz170 : szOf Try.prog 170 = some 1 := by kernel_rfl
@[simp] theorem Try.by170 : bytesOf Try.prog 170 = some 8 := by kernel_rfl
@[simp] theorem Try.ze170 : zeroOf Try.prog 170 = some (.nilFunc) := by kernel_rfl
attribute [simp] Try.underlying170
@[simp] theorem Try.ag171 : aggB Try.prog 171 = some false := by kernel_rfl
@[simp] theorem Try.sz171 : szOf Try.prog 171 = some 1 := by kernel_rfl
@[simp] theorem Try.by171 : bytesOf Try.prog 171 = some 8 := by kernel_rfl
@[simp] theorem Try.ze171 : zeroOf Try.prog 171 = some (.nilFunc) := by kernel_rfl
attribute [simp] Try.underlying171
@[simp] theorem Try.ag173 : aggB Try.prog 173 = some false := by kernel_rfl
@[simp] theorem Try.sz173 : szOf Try.prog 173 = some 1 := by kernel_rfl
@[simp] theorem Try.by173 : bytesOf Try.prog 173 = some 8 := by kernel_rfl
@[simp] theorem Try.ze173 : zeroOf Try.prog 173 = some (.nilFunc) := by kernel_rfl
attribute [simp] Try.underlying173
@[simp] theorem Try.ag174 : aggB Try.prog 174 = some false := by kernel_rfl
@[simp] theorem Try.sz174 : szOf Try.prog 174 = some 1 := by kernel_rfl
@[simp] theorem Try.by174 : bytesOf Try.prog 174 = some 8 := by kernel_rfl
@[simp] theorem Try.ze174 : zeroOf Try.prog 174 = some (.nilFunc) := by kernel_rfl
attribute [simp] Try.underlying174
@[simp] theorem Try.ag175 : aggB Try.prog 175 = some false := by kernel_rfl
@[simp] theorem Try.sz175 : szOf Try.prog 175 = some 1 := by kernel_rfl
@[simp] theorem Try.by175 : bytesOf Try.prog 175 = some 8 := by kernel_rfl
@[simp] theorem Try.ze175 : zeroOf Try.prog 175 = some (.nilFunc) := by kernel_rfl
attribute [simp] Try.underlying175
@[simp] theorem Try.ag176 : aggB Try.prog 176 = some false := by kernel_rfl
@[simp] theorem Try.sz176 : szOf Try.prog 176 = some 1 := by kernel_rfl
@[simp] theorem Try.by176 : bytesOf Try.prog 176 = some 8 := by kernel_rfl
@[simp] theorem Try.ze176 : zeroOf Try.prog 176 = some (.nilFunc) := by kernel_rfl
attribute [simp] Try.underlying176
@[simp] theorem Try.ag177 : aggB Try.prog 177 = some false := by kernel_rfl
@[simp] theorem Try.sz177 : szOf Try.prog 177 = some 1 := by kernel_rfl
@[simp] theorem Try.by177 : bytesOf Try.prog 177 = some 8 := by kernel_rfl
@[simp] theorem Try.ze177 : zeroOf Try.prog 177 = some (.nilFunc) := by kernel_rfl
attribute [simp] Try.underlying177
@[simp] theorem Try.ag178 : aggB Try.prog 178 = some false := by kernel_rfl
@[simp] theorem Try.sz178 : szOf Try.prog 178 = some 1 := by kernel_rfl
@[simp] theorem Try.by178 : bytesOf Try.prog 178 = some 24 := by kernel_rfl
@[simp] theorem Try.ze178 : zeroOf Try.prog 178 = some (.slice none 0 0) := by kernel_rfl
attribute [simp] Try.underlying178
@[simp] theorem Try.ag179 : aggB Try.prog 179 = some false := by kernel_rfl
@[simp] theorem Try.sz179 : szOf Try.prog 179 = some 1 := by kernel_rfl
@[simp] theorem Try.by179 : bytesOf Try.prog 179 = some 8 := by kernel_rfl
@[simp] theorem Try.ze179 : zeroOf Try.prog 179 = some (.nilFunc) := by kernel_rfl
attribute [simp] Try.underlying179
@[simp] theorem Try.ag180 : aggB Try.prog 180 = some false := by kernel_rfl
@[simp] theorem Try.sz180 : szOf Try.prog 180 = some 1 := by kernel_rfl
@[simp] theorem Try.by180 : bytesOf Try.prog 180 = some 8 := by kernel_rfl
@[simp] theorem Try.ze180 : zeroOf Try.prog 180 = some (.nilFunc) := by kernel_rfl
attribute [simp] Try.underlying180
@[simp] theorem Try.ag181 : aggB Try.prog 181 = some false := by kernel_rfl
@[simp] theorem Try.sz181 : szOf Try.prog 181 = some 1 := by kernel_rfl
@[simp] theorem Try.by181 : bytesOf Try.prog 181 = some 8 := by kernel_rfl
@[simp] theorem Try.ze181 : zeroOf Try.prog 181 = some (.nilFunc) := by kernel_rfl
attribute [simp] Try.underlying181
@[simp] theorem Try.ag182 : aggB Try.prog 182 = some false := by kernel_rfl
@[simp] theorem Try.sz182 : szOf Try.prog 182 = some 1 := by kernel_rfl
@[simp] theorem Try.by182 : bytesOf Try.prog 182 = some 8 := by kernel_rfl
@[simp] theorem Try.ze182 : zeroOf Try.prog 182 = some (.int .u64 0) := by kernel_rfl
attribute [simp] Try.underlying182
@[simp] theorem Try.ag183 : aggB Try.prog 183 = some false := by kernel_rfl
@[simp] theorem Try.sz183 : szOf Try.prog 183 = some 1 := by kernel_rfl
@[simp] theorem Try.by183 : bytesOf Try.prog 183 = some 8 := by kernel_rfl
@[simp] theorem Try.ze183 : zeroOf Try.prog 183 = some (.nilFunc) := by kernel_rfl
attribute [simp] Try.underlying183
@[simp] theorem Try.ag184 : aggB Try.prog 184 = some false := by kernel_rfl
@[simp] theorem Try.sz184 : szOf Try.prog 184 = some 1 := by kernel_rfl
@[simp] theorem Try.by184 : bytesOf Try.prog 184 = some 8 := by kernel_rfl
@[simp] theorem Try.ze184 : zeroOf Try.prog 184 = some (.nilFunc) := by kernel_rfl
attribute [simp] Try.underlying184
@[simp] theorem Try.ag185 : aggB Try.prog 185 = some false := by kernel_rfl
@[simp] theorem Try.sz185 : szOf Try.prog 185 = some 1 := by kernel_rfl
@[simp] theorem Try.by185 : bytesOf Try.prog 185 = some 8 := by kernel_rfl
@[simp] theorem Try.ze185 : zeroOf Try.prog 185 = some (.nilFunc) := by kernel_rfl
attribute [simp] Try.underlying185
@[simp] theorem Try.ag186 : aggB Try.prog 186 = some false := by kernel_rfl
@[simp] theorem Try.sz186 : szOf Try.prog 186 = some 1 := by kernel_rfl
@[simp] theorem Try.by186 : bytesOf Try.prog 186 = some 8 := by kernel_rfl
@[simp] theorem Try.ze186 : zeroOf Try.prog 186 = some (.nilFunc) := by kernel_rfl
attribute [simp] Try.underlying186
@[simp] theorem Try.ag187 : aggB Try.prog 187 = some false := by kernel_rfl
@[simp] theorem Try.sz187 : szOf Try.prog 187 = some 1 := by kernel_rfl
@[simp] theorem Try.by187 : bytesOf Try.prog 187 = some 8 := by kernel_rfl
@[simp] theorem Try.ze187 : zeroOf Try.prog 187 = some (.nilFunc) := by kernel_rfl
attribute [simp] Try.underlying187
@[simp] theorem Try.ag188 : aggB Try.prog 188 = some false := by kernel_rfl
@[simp] theorem Try.sz188 : szOf Try.prog 188 = some 1 := by kernel_rfl
@[simp] theorem Try.by188 : bytesOf Try.prog 188 = some 8 := by kernel_rfl
@[simp] theorem Try.ze188 : zeroOf Try.prog 188 = some (.nilFunc) := by kernel_rfl
attribute [simp] Try.underlying188
@[simp] theorem Try.ag189 : aggB Try.prog 189 = some false := by kernel_rfl
@[simp] theorem Try.sz189 : szOf Try.prog 189 = some 1 := by kernel_rfl
@[simp] theorem Try.by189 : bytesOf Try.prog 189 = some 8 := by kernel_rfl
@[simp] theorem Try.ze189 : zeroOf Try.prog 189 = some (.nilFunc) := by kernel_rfl
attribute [simp] Try.underlying189
@[simp] theorem Try.ag190 : aggB Try.prog 190 = some false := by kernel_rfl
@[simp] theorem Try.sz190 : szOf Try.prog 190 = some 1 := by kernel_rfl
@[simp] theorem Try.by190 : bytesOf Try.prog 190 = some 8 := by kernel_rfl
@[simp] theorem Try.ze190 : zeroOf Try.prog 190 = some (.nilFunc) := by kernel_rfl
attribute [simp] Try.underlying190
@[simp] theorem Try.ag191 : aggB Try.prog 191 = some false := by kernel_rfl
@[simp] theorem Try.sz191 : szOf Try.prog 191 = some 1 := by kernel_rfl
@[simp] theorem Try.by191 : bytesOf Try.prog 191 = some 8 := by kernel_rfl
@[simp] theorem Try.ze191 : zeroOf Try.prog 191 = some (.nilFunc) := by kernel_rfl
attribute [simp] Try.underlying191
@[simp] theorem Try.ag192 : aggB Try.prog 192 = some false := by kernel_rfl
@[simp] theorem Try.sz192 : szOf Try.prog 192 = some 1 := by kernel_rfl
@[simp] theorem Try.by192 : bytesOf Try.prog 192 = some 8 := by kernel_rfl
@[simp] theorem Try.ze192 : zeroOf Try.prog 192 = some (.nilFunc) := by kernel_rfl
attribute [simp] Try.underlying192
@[simp] theorem Try.ag193 : aggB Try.prog 193 = some false := by kernel_rfl
@[simp] theorem Try.sz193 : szOf Try.prog 193 = some 1 := by kernel_rfl
@[simp] theorem Try.by193 : bytesOf Try.prog 193 = some 8 := by kernel_rfl
@[simp] theorem Try.ze193 : zeroOf Try.prog 193 = some (.nilFunc) := by kernel_rfl
attribute [simp] Try.underlying193
@[simp] theorem Try.ag194 : aggB Try.prog 194 = some false := by kernel_rfl
@[simp] theorem Try.sz194 : szOf Try.prog 194 = some 1 := by kernel_rfl
@[simp] theorem Try.by194 : bytesOf Try.prog 194 = some 8 := by kernel_rfl
@[simp] theorem Try.ze194 : zeroOf Try.prog 194 = some (.nilFunc) := by kernel_rfl
attribute [simp] Try.underlying194
@[simp] theorem Try.ag195 : aggB Try.prog 195 = some false := by kernel_rfl
@[simp] theorem Try.sz195 : szOf Try.prog 195 = some 1 := by kernel_rfl
@[simp] theorem Try.by195 : bytesOf Try.prog 195 = some 8 := by kernel_rfl
@[simp] theorem Try.ze195 : zeroOf Try.prog 195 = some (.nilFunc) := by kernel_rfl
attribute [simp] Try.underlying195
@[simp] theorem Try.ag196 : aggB Try.prog 196 = some false := by kernel_rfl
@[simp] theorem Try.sz196 : szOf Try.prog 196 = some 1 := by kernel_rfl
@[simp] theorem Try.by196 : bytesOf Try.prog 196 = some 8 := by kernel_rfl
@[simp] theorem Try.ze196 : zeroOf Try.prog 196 = some (.nilFunc) := by kernel_rfl
attribute [simp] Try.underlying196
@[simp] theorem Try.ag197 : aggB Try.prog 197 = some false := by kernel_rfl
@[simp] theorem Try.sz197 : szOf Try.prog 197 = some 1 := by kernel_rfl
@[simp] theorem Try.by197 : bytesOf Try.prog 197 = some 8 := by kernel_rfl
@[simp] theorem Try.ze197 : zeroOf Try.prog 197 = some (.nilFunc) := by kernel_rfl
attribute [simp] Try.underlying197
@[simp] theorem Try.ag198 : aggB Try.prog 198 = some false := by kernel_rfl
@[simp] theorem Try.sz198 : szOf Try.prog 198 = some 1 := by kernel_rfl
@[simp] theorem Try.by198 : bytesOf Try.prog 198 = some 8 := by kernel_rfl
@[simp] theorem Try.ze198 : zeroOf Try.prog 198 = some (.nilFunc) := by kernel_rfl
attribute [simp] Try.underlying198
@[simp] theorem Try.ag199 : aggB Try.prog 199 = some false := by kernel_rfl
@[simp] theorem Try.sz199 : szOf Try.prog 199 = some 1 := by kernel_rfl
@[simp] theorem Try.by199 : bytesOf Try.prog 199 = some 8 := by kernel_rfl
@[simp] theorem Try.ze199 : zeroOf Try.prog 199 = some (.int .i64 0) := by kernel_rfl
attribute [simp] Try.underlying199
@[simp] theorem Try.ag201 : aggB Try.prog 201 = some false := by kernel_rfl
@[simp] theorem Try.sz201 : szOf Try.prog 201 = some 1 := by kernel_rfl
@[simp] theorem Try.by201 : bytesOf Try.prog 201 = some 8 := by kernel_rfl
@[simp] theorem Try.ze201 : zeroOf Try.prog 201 = some (.nilFunc) := by kernel_rfl
attribute [simp] Try.underlying201
@[simp] theorem Try.ag202 : aggB Try.prog 202 = some false := by kernel_rfl
@[simp] theorem Try.sz202 : szOf Try.prog 202 = some 1 := by kernel_rfl
@[simp] theorem Try.by202 : bytesOf Try.prog 202 = some 8 := by kernel_rfl
@[simp] theorem Try.ze202 : zeroOf Try.prog 202 = some (.nilFunc) := by kernel_rfl
attribute [simp] Try.underlying202
@[simp] theorem Try.ag203 : aggB Try.prog 203 = some false := by kernel_rfl
@[simp] theorem Try.sz203 : szOf Try.prog 203 = some 1 := by kernel_rfl
@[simp] theorem Try.by203 : bytesOf Try.prog 203 = some 8 := by kernel_rfl
@[simp] theorem Try.ze203 : zeroOf Try.prog 203 = some (.nilFunc) := by kernel_rfl
attribute [simp] Try.underlying203
@[simp] theorem Try.ag204 : aggB Try.prog 204 = some false := by kernel_rfl
@[simp] theorem Try.sz204 : szOf Try.prog 204 = some 1 := by kernel_rfl
@[simp] theorem Try.by204 : bytesOf Try.prog 204 = some 8 := by kernel_rfl
@[simp] theorem Try.ze204 : zeroOf Try.prog 204 = some (.nilFunc) := by kernel_rfl
attribute [simp] Try.underlying204
@[simp] theorem Try.ag205 : aggB Try.prog 205 = some false := by kernel_rfl
@[simp] theorem Try.sz205 : szOf Try.prog 205 = some 1 := by kernel_rfl
@[simp] theorem Try.by205 : bytesOf Try.prog 205 = some 8 := by kernel_rfl
@[simp] theorem Try.ze205 : zeroOf Try.prog 205 = some (.nilFunc) := by kernel_rfl
attribute [simp] Try.underlying205
@[simp] theorem Try.ag206 : aggB Try.prog 206 = some false := by kernel_rfl
@[simp] theorem Try.sz206 : szOf Try.prog 206 = some 1 := by kernel_rfl
@[simp] theorem Try.by206 : bytesOf Try.prog 206 = some 4 := by kernel_rfl
@[simp] theorem Try.ze206 : zeroOf Try.prog 206 = some (.int .u32 0) := by kernel_rfl
attribute [simp] Try.underlying206
@[simp] theorem Try.ag207 : aggB Try.prog 207 = some false := by kernel_rfl
@[simp] theorem Try.sz207 : szOf Try.prog 207 = some 1 := by kernel_rfl
@[simp] theorem Try.by207 : bytesOf Try.prog 207 = some 8 := by kernel_rfl
@[simp] theorem Try.ze207 : zeroOf Try.prog 207 = some (.nilFunc) := by kernel_rfl
attribute [simp] Try.underlying207
@[simp] theorem Try.ag208 : aggB Try.prog 208 = some false := by kernel_rfl
@[simp] theorem Try.sz208 : szOf Try.prog 208 = some 1 := by kernel_rfl
@[simp] theorem Try.by208 : bytesOf Try.prog 208 = some 8 := by kernel_rfl
@[simp] theorem Try.ze208 : zeroOf Try.prog 208 = some (.int .u64 0) := by kernel_rfl
attribute [simp] Try.underlying208
@[simp] theorem Try.ag209 : aggB Try.prog 209 = some false := by kernel_rfl
@[simp] theorem Try.sz209 : szOf Try.prog 209 = some 1 := by kernel_rfl
@[simp] theorem Try.by209 : bytesOf Try.prog 209 = some 8 := by kernel_rfl
@[simp] theorem Try.ze209 : zeroOf Try.prog 209 = some (.nilFunc) := by kernel_rfl
attribute [simp] Try.underlying209
@[simp] theorem Try.ag210 : aggB Try.prog 210 = some false := by kernel_rfl
@[simp] theorem Try.sz210 : szOf Try.prog 210 = some 1 := by kernel_rfl
@[simp] theorem Try.by210 : bytesOf Try.prog 210 = some 8 := by kernel_rfl
@[simp] theorem Try.ze210 : zeroOf Try.prog 210 = some (.nilFunc) := by kernel_rfl
attribute [simp] Try.underlying210
@[simp] theorem Try.ag211 : aggB Try.prog 211 = some false := by kernel_rfl
@[simp] theorem Try.sz211 : szOf Try.prog 211 = some 1 := by kernel_rfl
@[simp] theorem Try.by211 : bytesOf Try.prog 211 = some 8 := by kernel_rfl
@[simp] theorem Try.ze211 : zeroOf Try.prog 211 = some (.nilFunc) := by kernel_rfl
attribute [simp] Try.underlying211
@[simp] theorem Try.ag212 : aggB Try.prog 212 = some false := by kernel_rfl
@[simp] theorem Try.sz212 : szOf Try.prog 212 = some 1 := by kernel_rfl
@[simp] theorem Try.by212 : bytesOf Try.prog 212 = some 8 := by kernel_rfl
@[simp] theorem Try.ze212 : zeroOf Try.prog 212 = some (.nilFunc) := by kernel_rfl
attribute [simp] Try.underlying212
@[simp] theorem Try.ag213 : aggB Try.prog 213 = some false := by kernel_rfl
@[simp] theorem Try.sz213 : szOf Try.prog 213 = some 1 := by kernel_rfl
@[simp] theorem Try.by213 : bytesOf Try.prog 213 = some 8 := by kernel_rfl
@[simp] theorem Try.ze213 : zeroOf Try.prog 213 = some (.nilFunc) := by kernel_rfl
attribute [simp] Try.underlying213
@[simp] theorem Try.ag214 : aggB Try.prog 214 = some false := by kernel_rfl
@[simp] theorem Try.sz214 : szOf Try.prog 214 = some 1 := by kernel_rfl
@[simp] theorem Try.by214 : bytesOf Try.prog 214 = some 8 := by kernel_rfl
@[simp] theorem Try.ze214 : zeroOf Try.prog 214 = some (.nilFunc) := by kernel_rfl
attribute [simp] Try.underlying214
@[simp] theorem Try.ag215 : aggB Try.prog 215 = some false := by kernel_rfl
@[simp] theorem Try.sz215 : szOf Try.prog 215 = some 1 := by kernel_rfl
@[simp] theorem Try.by215 : bytesOf Try.prog 215 = some 8 := by kernel_rfl
@[simp] theorem Try.ze215 : zeroOf Try.prog 215 = some (.map none) := by kernel_rfl
attribute [simp] Try.underlying215
@[simp] theorem Try.ag216 : aggB Try.prog 216 = some false := by kernel_rfl
@[simp] theorem Try.sz216 : szOf Try.prog 216 = some 1 := by kernel_rfl
@[simp] theorem Try.by216 : bytesOf Try.prog 216 = some 8 := by kernel_rfl
@[simp] theorem Try.ze216 : zeroOf Try.prog 216 = some (.nilFunc) := by kernel_rfl
attribute [simp] Try.underlying216
@[simp] theorem Try.ag217 : aggB Try.prog 217 = some false := by kernel_rfl
@[simp] theorem Try.sz217 : szOf Try.prog 217 = some 1 := by kernel_rfl
@[simp] theorem Try.by217 : bytesOf Try.prog 217 = some 8 := by kernel_rfl
@[simp] theorem Try.ze217 : zeroOf Try.prog 217 = some (.nilFunc) := by kernel_rfl
attribute [simp] Try.underlying217
@[simp] theorem Try.ag218 : aggB Try.prog 218 = some false := by kernel_rfl
@[simp] theorem Try.sz218 : szOf Try.prog 218 = some 1 := by kernel_rfl
@[simp] theorem Try.by218 : bytesOf Try.prog 218 = some 8 := by kernel_rfl
@[simp] theorem Try.ze218 : zeroOf Try.prog 218 = some (.nilFunc) := by kernel_rfl
attribute [simp] Try.underlying218
@[simp] theorem Try.ag219 : aggB Try.prog 219 = some false := by kernel_rfl
@[simp] theorem Try.sz219 : szOf Try.prog 219 = some 1 := by kernel_rfl
@[simp] theorem Try.by219 : bytesOf Try.prog 219 = some 8 := by kernel_rfl
@[simp] theorem Try.ze219 : zeroOf Try.prog 219 = some (.int .u64 0) := by kernel_rfl
attribute [simp] Try.underlying219
@[simp] theorem Try.ag220 : aggB Try.prog 220 = some false := by kernel_rfl
@[simp] theorem Try.sz220 : szOf Try.prog 220 = some 1 := by kernel_rfl
@[simp] theorem Try.by220 : bytesOf Try.prog 220 = some 8 := by kernel_rfl
@[simp] theorem Try.ze220 : zeroOf Try.prog 220 = some (.nilFunc) := by kernel_rfl
attribute [simp] Try.underlying220
@[simp] theorem Try.ag221 : aggB Try.prog 221 = some false := by kernel_rfl
@[simp] theorem Try.sz221 : szOf Try.prog 221 = some 1 := by kernel_rfl
@[simp] theorem Try.by221 : bytesOf Try.prog 221 = some 8 := by kernel_rfl
@[simp] theorem Try.ze221 : zeroOf Try.prog 221 = some (.nilFunc) := by kernel_rfl
attribute [simp] Try.underlying221
@[simp] theorem Try.ag222 : aggB Try.prog 222 = some false := by kernel_rfl
@[simp] theorem Try.sz222 : szOf Try.prog 222 = some 1 := by kernel_rfl
@[simp] theorem Try.by222 : bytesOf Try.prog 222 = some 8 := by kernel_rfl
@[simp] theorem Try.ze222 : zeroOf Try.prog 222 = some (.nilFunc) := by kernel_rfl
attribute [simp] Try.underlying222
@[simp] theorem Try.ag223 : aggB Try.prog 223 = some false := by kernel_rfl
@[simp] theorem Try.sz223 : szOf Try.prog 223 = some 1 := by kernel_rfl
@[simp] theorem Try.by223 : bytesOf Try.prog 223 = some 8 := by kernel_rfl
attribute [simp] Try.underlying223
@[simp] theorem Try.ag224 : aggB Try.prog 224 = some false := by kernel_rfl
@[simp] theorem Try.sz224 : szOf Try.prog 224 = some 1 := by kernel_rfl
@[simp] theorem Try.by224 : bytesOf Try.prog 224 = some 8 := by kernel_rfl
@[simp] theorem Try.ze224 : zeroOf Try.prog 224 = some (.nilFunc) := by kernel_rfl
attribute [simp] Try.underlying224
@[simp] theorem Try.ag225 : aggB Try.prog 225 = some false := by kernel_rfl
@[simp] theorem Try.sz225 : szOf Try.prog 225 = some 1 := by kernel_rfl
@[simp] theorem Try.by225 : bytesOf Try.prog 225 = some 8 := by kernel_rfl
@[simp] theorem Try.ze225 : zeroOf Try.prog 225 = some (.nilFunc) := by kernel_rfl
attribute [simp] Try.underlying225
@[simp] theorem Try.ag226 : aggB Try.prog 226 = some false := by kernel_rfl
@[simp] theorem Try.sz226 : szOf Try.prog 226 = some 1 := by kernel_rfl
@[simp] theorem Try.by226 : bytesOf Try.prog 226 = some 8 := by kernel_rfl
@[simp] theorem Try.ze226 : zeroOf Try.prog 226 = some (.nilFunc) := by kernel_rfl
attribute [simp] Try.underlying226
@[simp] theorem Try.ag227 : aggB Try.prog 227 = some false := by kernel_rfl
@[simp] theorem Try.sz227 : szOf Try.prog 227 = some 1 := by kernel_rfl
@[simp] theorem Try.by227 : bytesOf Try.prog 227 = some 8 := by kernel_rfl
attribute [simp] Try.underlying227
@[simp] theorem Try.ag229 : aggB Try.prog 229 = some false := by kernel_rfl
@[simp] theorem Try.sz229 : szOf Try.prog 229 = some 1 := by kernel_rfl
@[simp] theorem Try.by229 : bytesOf Try.prog 229 = some 8 := by kernel_rfl
@[simp] theorem Try.ze229 : zeroOf Try.prog 229 = some (.nilFunc) := by kernel_rfl
attribute [simp] Try.underlying229
@[simp] theorem Try.ag230 : aggB Try.prog 230 = some false := by kernel_rfl
@[simp] theorem Try.sz230 : szOf Try.prog 230 = some 1 := by kernel_rfl
@[simp] theorem Try.by230 : bytesOf Try.prog 230 = some 8 := by kernel_rfl
@[simp] theorem Try.ze230 : zeroOf Try.prog 230 = some (.nilFunc) := by kernel_rfl
attribute [simp] Try.underlying230
@[simp] theorem Try.ag231 : aggB Try.prog 231 = some false := by kernel_rfl
@[simp] theorem Try.sz231 : szOf Try.prog 231 = some 1 := by kernel_rfl
@[simp] theorem Try.by231 : bytesOf Try.prog 231 = some 8 := by kernel_rfl
@[simp] theorem Try.ze231 : zeroOf Try.prog 231 = some (.nilFunc) := by kernel_rfl
attribute [simp] Try.underlying231
@[simp] theorem Try.ag232 : aggB Try.prog 232 = some false := by kernel_rfl
@[simp] theorem Try.sz232 : szOf Try.prog 232 = some 1 := by kernel_rfl
@[simp] theorem Try.by232 : bytesOf Try.prog 232 = some 8 := by kernel_rfl
@[simp] theorem Try.ze232 : zeroOf Try.prog 232 = some (.nilFunc) := by kernel_rfl
attribute [simp] Try.underlying232
@[simp] theorem Try.ag233 : aggB Try.prog 233 = some false := by kernel_rfl
@[simp] theorem Try.sz233 : szOf Try.prog 233 = some 1 := by kernel_rfl
@[simp] theorem Try.by233 : bytesOf Try.prog 233 = some 8 := by kernel_rfl
@[simp] theorem Try.ze233 : zeroOf Try.prog 233 = some (.nilFunc) := by kernel_rfl
attribute [simp] Try.underlying233
@[simp] theorem Try.ag234 : aggB Try.prog 234 = some true := by kernel_rfl
@[simp] theorem Try.sz234 : szOf Try.prog 234 = some 4 := by kernel_rfl
@[simp] theorem Try.by234 : bytesOf Try.prog 234 = some 40 := by kernel_rfl
@[simp] theorem Try.ze234 : zeroOf Try.prog 234 = some (.agg #[(.pointer none), (.pointer none), (.pointer none), (.string ⟨#[]⟩)]) := by kernel_rfl
attribute [simp] Try.underlying234
@[simp] theorem Try.ag235 : aggB Try.prog 235 = some true := by kernel_rfl
@[simp] theorem Try.sz235 : szOf Try.prog 235 = some 4 := by kernel_rfl
@[simp] theorem Try.by235 : bytesOf Try.prog 235 = some 40 := by kernel_rfl
@[simp] theorem Try.ze235 : zeroOf Try.prog 235 = some (.agg #[(.pointer none), (.pointer none), (.pointer none), (.string ⟨#[]⟩)]) := by kernel_rfl
attribute [simp] Try.underlying235
@[simp] theorem Try.ag236 : aggB Try.prog 236 = some true := by kernel_rfl
@[simp] theorem Try.sz236 : szOf Try.prog 236 = some 0 := by kernel_rfl
@[simp] theorem Try.by236 : bytesOf Try.prog 236 = some 0 := by kernel_rfl
@[simp] theorem Try.ze236 : zeroOf Try.prog 236 = some (.agg #[]) := by kernel_rfl
attribute [simp] Try.underlying236
@[simp] theorem Try.ag237 : aggB Try.prog 237 = some true := by kernel_rfl
@[simp] theorem Try.sz237 : szOf Try.prog 237 = some 0 := by kernel_rfl
@[simp] theorem Try.by237 : bytesOf Try.prog 237 = some 0 := by kernel_rfl
@[simp] theorem Try.ze237 : zeroOf Try.prog 237 = some (.agg #[]) := by kernel_rfl
attribute [simp] Try.underlying237
@[simp] theorem Try.ag238 : aggB Try.prog 238 = some true := by kernel_rfl
@[simp] theorem Try.sz238 : szOf Try.prog 238 = some 0 := by kernel_rfl
@[simp] theorem Try.by238 : bytesOf Try.prog 238 = some 0 := by kernel_rfl
@[simp] theorem Try.ze238 : zeroOf Try.prog 238 = some (.agg #[]) := by kernel_rfl
attribute [simp] Try.underlying238
@[simp] theorem Try.ag239 : aggB Try.prog 239 = some false := by kernel_rfl
@[simp] theorem Try.sz239 : szOf Try.prog 239 = some 1 := by kernel_rfl
@[simp] theorem Try.by239 : bytesOf Try.prog 239 = some 1 := by kernel_rfl
@[simp] theorem Try.ze239 : zeroOf Try.prog 239 = some (.int .u8 0) := by kernel_rfl
attribute [simp] Try.underlying239
@[simp] theorem Try.ag240 : aggB Try.prog 240 = some false := by kernel_rfl
@[simp] theorem Try.sz240 : szOf Try.prog 240 = some 1 := by kernel_rfl
@[simp] theorem Try.by240 : bytesOf Try.prog 240 = some 1 := by kernel_rfl
@[simp] theorem Try.ze240 : zeroOf Try.prog 240 = some (.int .u8 0) := by kernel_rfl
attribute [simp] Try.underlying240
@[simp] theorem Try.ag241 : aggB Try.prog 241 = some false := by kernel_rfl
@[simp] theorem Try.sz241 : szOf Try.prog 241 = some 1 := by kernel_rfl
@[simp] theorem Try.by241 : bytesOf Try.prog 241 = some 8 := by kernel_rfl
@[simp] theorem Try.ze241 : zeroOf Try.prog 241 = some (.nilFunc) := by kernel_rfl
attribute [simp] Try.underlying241
@[simp] theorem Try.ag242 : aggB Try.prog 242 = some false := by kernel_rfl
@[simp] theorem Try.sz242 : szOf Try.prog 242 = some 1 := by kernel_rfl
@[simp] theorem Try.by242 : bytesOf Try.prog 242 = some 8 := by kernel_rfl
attribute [simp] Try.underlying242
@[simp] theorem Try.ag243 : aggB Try.prog 243 = some false := by kernel_rfl
@[simp] theorem Try.sz243 : szOf Try.prog 243 = some 1 := by kernel_rfl
@[simp] theorem Try.by243 : bytesOf Try.prog 243 = some 4 := by kernel_rfl
@[simp] theorem Try.ze243 : zeroOf Try.prog 243 = some (.int .i32 0) := by kernel_rfl
attribute [simp] Try.underlying243
@[simp] theorem Try.ag244 : aggB Try.prog 244 = some false := by kernel_rfl
@[simp] theorem Try.sz244 : szOf Try.prog 244 = some 1 := by kernel_rfl
@[simp] theorem Try.by244 : bytesOf Try.prog 244 = some 4 := by kernel_rfl
@[simp] theorem Try.ze244 : zeroOf Try.prog 244 = some (.int .i32 0) := by kernel_rfl
attribute [simp] Try.underlying244
@[simp] theorem Try.ag245 : aggB Try.prog 245 = some true := by kernel_rfl
@[simp] theorem Try.sz245 : szOf Try.prog 245 = some 11 := by kernel_rfl
@[simp] theorem Try.by245 : bytesOf Try.prog 245 = some 48 := by kernel_rfl
@[simp] theorem Try.ze245 : zeroOf Try.prog 245 = some (.agg #[(.int .u64 0), (.int .u64 0), (.int .u32 0), (.int .u8 0), (.int .u8 0), (.int .u8 0), (.int .u8 0), .nilFunc, (.pointer none), (.int .i32 0), (.int .i32 0)]) := by kernel_rfl
attribute [simp] Try.underlying245
@[simp] theorem Try.ag246 : aggB Try.prog 246 = some true := by kernel_rfl
@[simp] theorem Try.sz246 : szOf Try.prog 246 = some 11 := by kernel_rfl
@[simp] theorem Try.by246 : bytesOf Try.prog 246 = some 48 := by kernel_rfl
@[simp] theorem Try.ze246 : zeroOf Try.prog 246 = some (.agg #[(.int .u64 0), (.int .u64 0), (.int .u32 0), (.int .u8 0), (.int .u8 0), (.int .u8 0), (.int .u8 0), .nilFunc, (.pointer none), (.int .i32 0), (.int .i32 0)]) := by kernel_rfl
attribute [simp] Try.underlying246
theorem Try.okProg : OkProg Try.prog := by
  have h : Try.prog.funcs.toList.all (fun fn => match fn.body with
    | some c => okCode Try.prog.globals.size c
    | none => true) = true := by kernel_rfl
  intro f fn c hf hb
  rw [List.all_eq_true] at h
  have := h fn (Array.mem_toList_iff.2 (Array.mem_of_getElem? hf))
  rw [hb] at this
  exact this
theorem Try.mixed : Try.prog.follows .mixedOrders = true := by kernel_rfl
end Go.AM

