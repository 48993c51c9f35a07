import Derived.Test.YtmjofgacpgcjmaaGreatSeB
import Derived.IntWalk
section
set_option linter.unusedVariables false
namespace Go.Ev
open Go
noncomputable def T_cmp (a : Int) (af : Bool) (b : Int) (bf : Bool) : Tree SEnd :=
(.node (a == (-9223372036854775808 : Int))
 (.node (b == (-9223372036854775808 : Int))
  (.leaf (.returned (.int .i64 true 0)))
  (.node (b != b)
   (.leaf (.returned (.int .i64 true 1)))
   (.node (decide ((-9223372036854775807 : Int) < b))
    (.leaf (.returned (.int .i64 true (-1))))
    (.node (decide ((-9223372036854775807 : Int) > b))
     (.leaf (.returned (.int .i64 true 1)))
     (.leaf (.returned (.int .i64 true 0)))
    )
   )
  )
 )
 (.node (b == (-9223372036854775808 : Int))
  (.node (a != a)
   (.leaf (.returned (.int .i64 true (-1))))
   (.node (decide (a < (-9223372036854775807 : Int)))
    (.leaf (.returned (.int .i64 true (-1))))
    (.node (decide (a > (-9223372036854775807 : Int)))
     (.leaf (.returned (.int .i64 true 1)))
     (.leaf (.returned (.int .i64 true 0)))
    )
   )
  )
  (.node (a != a)
   (.node (b != b)
    (.leaf (.returned (.int .i64 true 0)))
    (.leaf (.returned (.int .i64 true (-1))))
   )
   (.node (b != b)
    (.leaf (.returned (.int .i64 true 1)))
    (.node (decide (a < b))
     (.leaf (.returned (.int .i64 true (-1))))
     (.node (decide (a > b))
      (.leaf (.returned (.int .i64 true 1)))
      (.leaf (.returned (.int .i64 true 0)))
     )
    )
   )
  )
 )
)

noncomputable def T_reach (x : Int) (xf : Bool) (y : Int) (yf : Bool) : Tree SEnd :=
(.node (x == (-9223372036854775808 : Int))
 (.node (y == (-9223372036854775808 : Int))
  (.leaf (.returned (.bool true false)))
  (.node ((bif decide (y < IntKind.i64.wrap ((0 : Int) - y)) then IntKind.i64.wrap ((0 : Int) - y) else y) == (-9223372036854775808 : Int))
   (.leaf (.returned (.bool true false)))
   (.node ((bif decide (y < IntKind.i64.wrap ((0 : Int) - y)) then IntKind.i64.wrap ((0 : Int) - y) else y) != bif decide (y < IntKind.i64.wrap ((0 : Int) - y)) then IntKind.i64.wrap ((0 : Int) - y) else y)
    (.leaf (.returned (.bool true false)))
    (.node (decide ((bif decide (y < IntKind.i64.wrap ((0 : Int) - y)) then IntKind.i64.wrap ((0 : Int) - y) else y) < bif decide ((-9223372036854775807 : Int) < IntKind.i64.wrap ((0 : Int) - (-9223372036854775807 : Int))) then IntKind.i64.wrap ((0 : Int) - (-9223372036854775807 : Int)) else (-9223372036854775807 : Int)))
     (.leaf (.returned (.bool true false)))
     (.node (decide ((bif decide (y < IntKind.i64.wrap ((0 : Int) - y)) then IntKind.i64.wrap ((0 : Int) - y) else y) > bif decide ((-9223372036854775807 : Int) < IntKind.i64.wrap ((0 : Int) - (-9223372036854775807 : Int))) then IntKind.i64.wrap ((0 : Int) - (-9223372036854775807 : Int)) else (-9223372036854775807 : Int)))
      (.leaf (.returned (.bool true false)))
      (.leaf (.returned (.bool true false)))
     )
    )
   )
  )
 )
 (.node (y == (-9223372036854775808 : Int))
  (.node ((bif decide (x < IntKind.i64.wrap ((0 : Int) - x)) then IntKind.i64.wrap ((0 : Int) - x) else x) == (-9223372036854775808 : Int))
   (.leaf (.returned (.bool true false)))
   (.node (xf)
    (.node ((bif decide (x < IntKind.i64.wrap ((0 : Int) - x)) then IntKind.i64.wrap ((0 : Int) - x) else x) != bif decide (x < IntKind.i64.wrap ((0 : Int) - x)) then IntKind.i64.wrap ((0 : Int) - x) else x)
     (.leaf (.returned (.bool true false)))
     (.node (decide ((bif decide ((-9223372036854775807 : Int) < IntKind.i64.wrap ((0 : Int) - (-9223372036854775807 : Int))) then IntKind.i64.wrap ((0 : Int) - (-9223372036854775807 : Int)) else (-9223372036854775807 : Int)) < bif decide (x < IntKind.i64.wrap ((0 : Int) - x)) then IntKind.i64.wrap ((0 : Int) - x) else x))
      (.leaf (.returned (.bool true false)))
      (.node (decide ((bif decide ((-9223372036854775807 : Int) < IntKind.i64.wrap ((0 : Int) - (-9223372036854775807 : Int))) then IntKind.i64.wrap ((0 : Int) - (-9223372036854775807 : Int)) else (-9223372036854775807 : Int)) > bif decide (x < IntKind.i64.wrap ((0 : Int) - x)) then IntKind.i64.wrap ((0 : Int) - x) else x))
       (.leaf (.returned (.bool true false)))
       (.leaf (.returned (.bool true false)))
      )
     )
    )
    (.node ((bif decide (x < IntKind.i64.wrap ((0 : Int) - x)) then IntKind.i64.wrap ((0 : Int) - x) else x) != bif decide (x < IntKind.i64.wrap ((0 : Int) - x)) then IntKind.i64.wrap ((0 : Int) - x) else x)
     (.leaf (.returned (.bool true false)))
     (.node (decide ((bif decide ((-9223372036854775807 : Int) < IntKind.i64.wrap ((0 : Int) - (-9223372036854775807 : Int))) then IntKind.i64.wrap ((0 : Int) - (-9223372036854775807 : Int)) else (-9223372036854775807 : Int)) < bif decide (x < IntKind.i64.wrap ((0 : Int) - x)) then IntKind.i64.wrap ((0 : Int) - x) else x))
      (.leaf (.returned (.bool true false)))
      (.node (decide ((bif decide ((-9223372036854775807 : Int) < IntKind.i64.wrap ((0 : Int) - (-9223372036854775807 : Int))) then IntKind.i64.wrap ((0 : Int) - (-9223372036854775807 : Int)) else (-9223372036854775807 : Int)) > bif decide (x < IntKind.i64.wrap ((0 : Int) - x)) then IntKind.i64.wrap ((0 : Int) - x) else x))
       (.leaf (.returned (.bool true false)))
       (.leaf (.returned (.bool true false)))
      )
     )
    )
   )
  )
  (.node ((bif decide (x < IntKind.i64.wrap ((0 : Int) - x)) then IntKind.i64.wrap ((0 : Int) - x) else x) == (-9223372036854775808 : Int))
   (.node ((bif decide (y < IntKind.i64.wrap ((0 : Int) - y)) then IntKind.i64.wrap ((0 : Int) - y) else y) == (-9223372036854775808 : Int))
    (.leaf (.returned (.bool true false)))
    (.node ((bif decide (y < IntKind.i64.wrap ((0 : Int) - y)) then IntKind.i64.wrap ((0 : Int) - y) else y) != bif decide (y < IntKind.i64.wrap ((0 : Int) - y)) then IntKind.i64.wrap ((0 : Int) - y) else y)
     (.leaf (.returned (.bool true false)))
     (.node (decide ((bif decide (y < IntKind.i64.wrap ((0 : Int) - y)) then IntKind.i64.wrap ((0 : Int) - y) else y) < (-9223372036854775807 : Int)))
      (.leaf (.returned (.bool true false)))
      (.node (decide ((bif decide (y < IntKind.i64.wrap ((0 : Int) - y)) then IntKind.i64.wrap ((0 : Int) - y) else y) > (-9223372036854775807 : Int)))
       (.leaf (.returned (.bool true false)))
       (.leaf (.returned (.bool true false)))
      )
     )
    )
   )
   (.node ((bif decide (y < IntKind.i64.wrap ((0 : Int) - y)) then IntKind.i64.wrap ((0 : Int) - y) else y) == (-9223372036854775808 : Int))
    (.node (xf)
     (.node ((bif decide (x < IntKind.i64.wrap ((0 : Int) - x)) then IntKind.i64.wrap ((0 : Int) - x) else x) != bif decide (x < IntKind.i64.wrap ((0 : Int) - x)) then IntKind.i64.wrap ((0 : Int) - x) else x)
      (.leaf (.returned (.bool true false)))
      (.node (decide ((-9223372036854775807 : Int) < bif decide (x < IntKind.i64.wrap ((0 : Int) - x)) then IntKind.i64.wrap ((0 : Int) - x) else x))
       (.leaf (.returned (.bool true false)))
       (.node (decide ((-9223372036854775807 : Int) > bif decide (x < IntKind.i64.wrap ((0 : Int) - x)) then IntKind.i64.wrap ((0 : Int) - x) else x))
        (.leaf (.returned (.bool true false)))
        (.leaf (.returned (.bool true false)))
       )
      )
     )
     (.node ((bif decide (x < IntKind.i64.wrap ((0 : Int) - x)) then IntKind.i64.wrap ((0 : Int) - x) else x) != bif decide (x < IntKind.i64.wrap ((0 : Int) - x)) then IntKind.i64.wrap ((0 : Int) - x) else x)
      (.leaf (.returned (.bool true false)))
      (.node (decide ((-9223372036854775807 : Int) < bif decide (x < IntKind.i64.wrap ((0 : Int) - x)) then IntKind.i64.wrap ((0 : Int) - x) else x))
       (.leaf (.returned (.bool true false)))
       (.node (decide ((-9223372036854775807 : Int) > bif decide (x < IntKind.i64.wrap ((0 : Int) - x)) then IntKind.i64.wrap ((0 : Int) - x) else x))
        (.leaf (.returned (.bool true false)))
        (.leaf (.returned (.bool true false)))
       )
      )
     )
    )
    (.node (xf)
     (.node ((bif decide (y < IntKind.i64.wrap ((0 : Int) - y)) then IntKind.i64.wrap ((0 : Int) - y) else y) != bif decide (y < IntKind.i64.wrap ((0 : Int) - y)) then IntKind.i64.wrap ((0 : Int) - y) else y)
      (.node ((bif decide (x < IntKind.i64.wrap ((0 : Int) - x)) then IntKind.i64.wrap ((0 : Int) - x) else x) != bif decide (x < IntKind.i64.wrap ((0 : Int) - x)) then IntKind.i64.wrap ((0 : Int) - x) else x)
       (.leaf (.returned (.bool true false)))
       (.leaf (.returned (.bool true false)))
      )
      (.node ((bif decide (x < IntKind.i64.wrap ((0 : Int) - x)) then IntKind.i64.wrap ((0 : Int) - x) else x) != bif decide (x < IntKind.i64.wrap ((0 : Int) - x)) then IntKind.i64.wrap ((0 : Int) - x) else x)
       (.leaf (.returned (.bool true false)))
       (.node (decide ((bif decide (y < IntKind.i64.wrap ((0 : Int) - y)) then IntKind.i64.wrap ((0 : Int) - y) else y) < bif decide (x < IntKind.i64.wrap ((0 : Int) - x)) then IntKind.i64.wrap ((0 : Int) - x) else x))
        (.leaf (.returned (.bool true false)))
        (.node (decide ((bif decide (y < IntKind.i64.wrap ((0 : Int) - y)) then IntKind.i64.wrap ((0 : Int) - y) else y) > bif decide (x < IntKind.i64.wrap ((0 : Int) - x)) then IntKind.i64.wrap ((0 : Int) - x) else x))
         (.leaf (.returned (.bool true false)))
         (.leaf (.returned (.bool true false)))
        )
       )
      )
     )
     (.node ((bif decide (y < IntKind.i64.wrap ((0 : Int) - y)) then IntKind.i64.wrap ((0 : Int) - y) else y) != bif decide (y < IntKind.i64.wrap ((0 : Int) - y)) then IntKind.i64.wrap ((0 : Int) - y) else y)
      (.node ((bif decide (x < IntKind.i64.wrap ((0 : Int) - x)) then IntKind.i64.wrap ((0 : Int) - x) else x) != bif decide (x < IntKind.i64.wrap ((0 : Int) - x)) then IntKind.i64.wrap ((0 : Int) - x) else x)
       (.node (yf)
        (.leaf (.returned (.bool true false)))
        (.node (decide ((bif decide (x < IntKind.i64.wrap ((0 : Int) - x)) then IntKind.i64.wrap ((0 : Int) - x) else x) > IntKind.i64.wrap ((64 : Int) * (2 : Int) ^ min (Int.toNat (32 : Int)) IntKind.i64.bits)))
         (.leaf (.returned (.bool true false)))
         (.leaf (.returned (.bool true true)))
        )
       )
       (.node (yf)
        (.leaf (.returned (.bool true false)))
        (.node (decide ((bif decide (x < IntKind.i64.wrap ((0 : Int) - x)) then IntKind.i64.wrap ((0 : Int) - x) else x) > IntKind.i64.wrap ((64 : Int) * (2 : Int) ^ min (Int.toNat (32 : Int)) IntKind.i64.bits)))
         (.leaf (.returned (.bool true false)))
         (.leaf (.returned (.bool true true)))
        )
       )
      )
      (.node ((bif decide (x < IntKind.i64.wrap ((0 : Int) - x)) then IntKind.i64.wrap ((0 : Int) - x) else x) != bif decide (x < IntKind.i64.wrap ((0 : Int) - x)) then IntKind.i64.wrap ((0 : Int) - x) else x)
       (.node (yf)
        (.leaf (.returned (.bool true false)))
        (.node (decide ((bif decide (y < IntKind.i64.wrap ((0 : Int) - y)) then IntKind.i64.wrap ((0 : Int) - y) else y) > IntKind.i64.wrap ((64 : Int) * (2 : Int) ^ min (Int.toNat (32 : Int)) IntKind.i64.bits)))
         (.leaf (.returned (.bool true false)))
         (.leaf (.returned (.bool true true)))
        )
       )
       (.node (decide ((bif decide (y < IntKind.i64.wrap ((0 : Int) - y)) then IntKind.i64.wrap ((0 : Int) - y) else y) < bif decide (x < IntKind.i64.wrap ((0 : Int) - x)) then IntKind.i64.wrap ((0 : Int) - x) else x))
        (.node (yf)
         (.leaf (.returned (.bool true false)))
         (.node (decide ((bif decide (x < IntKind.i64.wrap ((0 : Int) - x)) then IntKind.i64.wrap ((0 : Int) - x) else x) > IntKind.i64.wrap ((64 : Int) * (2 : Int) ^ min (Int.toNat (32 : Int)) IntKind.i64.bits)))
          (.leaf (.returned (.bool true false)))
          (.leaf (.returned (.bool true true)))
         )
        )
        (.node (decide ((bif decide (y < IntKind.i64.wrap ((0 : Int) - y)) then IntKind.i64.wrap ((0 : Int) - y) else y) > bif decide (x < IntKind.i64.wrap ((0 : Int) - x)) then IntKind.i64.wrap ((0 : Int) - x) else x))
         (.node (yf)
          (.leaf (.returned (.bool true false)))
          (.node (decide ((bif decide (y < IntKind.i64.wrap ((0 : Int) - y)) then IntKind.i64.wrap ((0 : Int) - y) else y) > IntKind.i64.wrap ((64 : Int) * (2 : Int) ^ min (Int.toNat (32 : Int)) IntKind.i64.bits)))
           (.leaf (.returned (.bool true false)))
           (.leaf (.returned (.bool true true)))
          )
         )
         (.node (yf)
          (.leaf (.returned (.bool true false)))
          (.node (decide ((bif decide (x < IntKind.i64.wrap ((0 : Int) - x)) then IntKind.i64.wrap ((0 : Int) - x) else x) > IntKind.i64.wrap ((64 : Int) * (2 : Int) ^ min (Int.toNat (32 : Int)) IntKind.i64.bits)))
           (.leaf (.returned (.bool true false)))
           (.leaf (.returned (.bool true true)))
          )
         )
        )
       )
      )
     )
    )
   )
  )
 )
)

/-- fixed.Cmp -/
noncomputable def cmpV (a : Int) (af : Bool) (b : Int) (bf : Bool) : Int := resInt (T_cmp a af b bf)
/-- world.reach at 64 -/
noncomputable def reachV (x : Int) (xf : Bool) (y : Int) (yf : Bool) : Bool := resBool (T_reach x xf y yf)
noncomputable def sCmp : List SV → Option SV
  | [.agg [.int .i64 _ a, .bool _ af], .agg [.int .i64 _ b, .bool _ bf]] => some (.int .i64 false (cmpV a af b bf))
  | _ => none
noncomputable def sReach : List SV → List SV → Option SV
  | [.int .i64 _ n], [.int .i64 _ x, .bool _ xf, .int .i64 _ y, .bool _ yf] => bif decide (n = 64) then some (.bool false (reachV x xf y yf)) else none
  | _, _ => none
end Go.Ev
end
section
set_option linter.unusedVariables false
namespace Go.Ev
open Go
noncomputable def T_cs (a : Int) (af : Bool) (b : Int) (bf : Bool) (c : Int) (cf : Bool) (m r s t q : Int) : Tree SEnd :=
(.node (decide (cmpV c cf (IntKind.i64.wrap (IntKind.u64.wrap ((IntKind.u64.wrap (IntKind.u64.wrap (1 : Int) * (2 : Int) ^ min (Int.toNat (32 : Int)) IntKind.u64.bits)).tdiv (IntKind.u64.wrap (1024 : Int))))) false ≥ (0 : Int)))
 (.node (decide (cmpV c cf (IntKind.i64.wrap (IntKind.u64.wrap ((IntKind.u64.wrap (IntKind.u64.wrap (1 : Int) * (2 : Int) ^ min (Int.toNat (32 : Int)) IntKind.u64.bits)).tdiv (IntKind.u64.wrap (8 : Int))))) false ≤ (0 : Int)))
  (.node (!!cf)
   (.leaf (.returned (.int .i64 true 3)))
   (.node (!reachV a af b bf)
    (.leaf (.returned (.int .i64 true 3)))
    (.node (decide (m < (1 : Int)))
     (.leaf (.returned (.int .i64 true 3)))
     (.node (decide (m > (64 : Int)))
      (.leaf (.returned (.int .i64 true 3)))
      (.node (decide (r < (1 : Int)))
       (.leaf (.returned (.int .i64 true 3)))
       (.node (decide (r > (16 : Int)))
        (.leaf (.returned (.int .i64 true 3)))
        (.node (decide (s < (1 : Int)))
         (.leaf (.returned (.int .i64 true 3)))
         (.node (decide (s > (16 : Int)))
          (.leaf (.returned (.int .i64 true 3)))
          (.node (decide (t < (1 : Int)))
           (.leaf (.returned (.int .i64 true 3)))
           (.node (decide (t > (64 : Int)))
            (.leaf (.returned (.int .i64 true 3)))
            (.node (decide (q < (1 : Int)))
             (.leaf (.returned (.int .i64 true 3)))
             (.node (decide (q > (65536 : Int)))
              (.leaf (.returned (.int .i64 true 3)))
              (.leaf (.returned (.int .i64 true 0)))
             )
            )
           )
          )
         )
        )
       )
      )
     )
    )
   )
  )
  (.leaf (.returned (.int .i64 true 3)))
 )
 (.leaf (.returned (.int .i64 true 3)))
)

noncomputable def T_r9 (a : Int) (af : Bool) (b : Int) (bf : Bool) (c : Int) (cf : Bool) (m r s t q : Int) : Tree SEnd :=
(.node (a == (-9223372036854775808 : Int))
 (.leaf (.returned (.int .i64 true 3)))
 (.node (!af)
  (.node (decide (a ≤ IntKind.i64.wrap ((64 : Int) * (4294967296 : Int))))
   (.node (decide (a ≥ IntKind.i64.wrap (IntKind.i64.wrap ((0 : Int) - (64 : Int)) * (4294967296 : Int))))
    (.node (b == (-9223372036854775808 : Int))
     (.leaf (.returned (.int .i64 true 3)))
     (.node (!bf)
      (.node (decide (b ≤ IntKind.i64.wrap ((64 : Int) * (4294967296 : Int))))
       (.node (!decide (b ≥ IntKind.i64.wrap (IntKind.i64.wrap ((0 : Int) - (64 : Int)) * (4294967296 : Int))))
        (.leaf (.returned (.int .i64 true 3)))
        (.node (cf)
         (.leaf (.returned (.int .i64 true 3)))
         (.node (decide (c < (4194304 : Int)))
          (.leaf (.returned (.int .i64 true 3)))
          (.node (decide (c > (536870912 : Int)))
           (.leaf (.returned (.int .i64 true 3)))
           (.node (decide (m < (1 : Int)))
            (.leaf (.returned (.int .i64 true 3)))
            (.node (decide (m > (64 : Int)))
             (.leaf (.returned (.int .i64 true 3)))
             (.node (decide (r < (1 : Int)))
              (.leaf (.returned (.int .i64 true 3)))
              (.node (decide (r > (16 : Int)))
               (.leaf (.returned (.int .i64 true 3)))
               (.node (decide (s < (1 : Int)))
                (.leaf (.returned (.int .i64 true 3)))
                (.node (decide (s > (16 : Int)))
                 (.leaf (.returned (.int .i64 true 3)))
                 (.node (decide (t < (1 : Int)))
                  (.leaf (.returned (.int .i64 true 3)))
                  (.node (decide (t > (64 : Int)))
                   (.leaf (.returned (.int .i64 true 3)))
                   (.node (decide (q < (1 : Int)))
                    (.leaf (.returned (.int .i64 true 3)))
                    (.node (decide (q > (65536 : Int)))
                     (.leaf (.returned (.int .i64 true 3)))
                     (.leaf (.returned (.int .i64 true 0)))
                    )
                   )
                  )
                 )
                )
               )
              )
             )
            )
           )
          )
         )
        )
       )
       (.leaf (.returned (.int .i64 true 3)))
      )
      (.leaf (.returned (.int .i64 true 3)))
     )
    )
    (.leaf (.returned (.int .i64 true 3)))
   )
   (.leaf (.returned (.int .i64 true 3)))
  )
  (.leaf (.returned (.int .i64 true 3)))
 )
)

noncomputable def T_op (k s : Int) (b : ByteArray) (n : Int) : Tree SEnd :=
(.node (k == (1 : Int))
 (.node (!(k == k && ((0 : Int) == s && (noBytes == b && ((0 : Int) == n && true)))))
  (.leaf (.returned (.int .i64 true 4)))
  (.node (k != (1 : Int))
   (.node (k != (5 : Int))
    (.node (decide (s < (1 : Int)))
     (.leaf (.returned (.int .i64 true 3)))
     (.node (decide (s > (16 : Int)))
      (.leaf (.returned (.int .i64 true 3)))
      (.node (decide (n < (0 : Int)))
       (.leaf (.returned (.int .i64 true 3)))
       (.node (decide (n > (65536 : Int)))
        (.leaf (.returned (.int .i64 true 3)))
        (.leaf (.returned (.int .i64 true 0)))
       )
      )
     )
    )
    (.node (decide (n < (0 : Int)))
     (.leaf (.returned (.int .i64 true 3)))
     (.node (decide (n > (65536 : Int)))
      (.leaf (.returned (.int .i64 true 3)))
      (.leaf (.returned (.int .i64 true 0)))
     )
    )
   )
   (.node (decide (n < (0 : Int)))
    (.leaf (.returned (.int .i64 true 3)))
    (.node (decide (n > (65536 : Int)))
     (.leaf (.returned (.int .i64 true 3)))
     (.leaf (.returned (.int .i64 true 0)))
    )
   )
  )
 )
 (.node (k == (5 : Int))
  (.node (!(k == k && ((0 : Int) == s && (noBytes == b && ((0 : Int) == n && true)))))
   (.leaf (.returned (.int .i64 true 4)))
   (.node (k != (1 : Int))
    (.node (k != (5 : Int))
     (.node (decide (s < (1 : Int)))
      (.leaf (.returned (.int .i64 true 3)))
      (.node (decide (s > (16 : Int)))
       (.leaf (.returned (.int .i64 true 3)))
       (.node (decide (n < (0 : Int)))
        (.leaf (.returned (.int .i64 true 3)))
        (.node (decide (n > (65536 : Int)))
         (.leaf (.returned (.int .i64 true 3)))
         (.leaf (.returned (.int .i64 true 0)))
        )
       )
      )
     )
     (.node (decide (n < (0 : Int)))
      (.leaf (.returned (.int .i64 true 3)))
      (.node (decide (n > (65536 : Int)))
       (.leaf (.returned (.int .i64 true 3)))
       (.leaf (.returned (.int .i64 true 0)))
      )
     )
    )
    (.node (decide (n < (0 : Int)))
     (.leaf (.returned (.int .i64 true 3)))
     (.node (decide (n > (65536 : Int)))
      (.leaf (.returned (.int .i64 true 3)))
      (.leaf (.returned (.int .i64 true 0)))
     )
    )
   )
  )
  (.node (k == (2 : Int))
   (.node (!(k == k && (s == s && (noBytes == b && ((0 : Int) == n && true)))))
    (.leaf (.returned (.int .i64 true 4)))
    (.node (k != (1 : Int))
     (.node (k != (5 : Int))
      (.node (decide (s < (1 : Int)))
       (.leaf (.returned (.int .i64 true 3)))
       (.node (decide (s > (16 : Int)))
        (.leaf (.returned (.int .i64 true 3)))
        (.node (decide (n < (0 : Int)))
         (.leaf (.returned (.int .i64 true 3)))
         (.node (decide (n > (65536 : Int)))
          (.leaf (.returned (.int .i64 true 3)))
          (.leaf (.returned (.int .i64 true 0)))
         )
        )
       )
      )
      (.node (decide (n < (0 : Int)))
       (.leaf (.returned (.int .i64 true 3)))
       (.node (decide (n > (65536 : Int)))
        (.leaf (.returned (.int .i64 true 3)))
        (.leaf (.returned (.int .i64 true 0)))
       )
      )
     )
     (.node (decide (n < (0 : Int)))
      (.leaf (.returned (.int .i64 true 3)))
      (.node (decide (n > (65536 : Int)))
       (.leaf (.returned (.int .i64 true 3)))
       (.leaf (.returned (.int .i64 true 0)))
      )
     )
    )
   )
   (.node (k == (3 : Int))
    (.node (!(k == k && (s == s && (b == b && ((0 : Int) == n && true)))))
     (.leaf (.returned (.int .i64 true 4)))
     (.node (k != (1 : Int))
      (.node (k != (5 : Int))
       (.node (decide (s < (1 : Int)))
        (.leaf (.returned (.int .i64 true 3)))
        (.node (decide (s > (16 : Int)))
         (.leaf (.returned (.int .i64 true 3)))
         (.node (decide (n < (0 : Int)))
          (.leaf (.returned (.int .i64 true 3)))
          (.node (decide (n > (65536 : Int)))
           (.leaf (.returned (.int .i64 true 3)))
           (.leaf (.returned (.int .i64 true 0)))
          )
         )
        )
       )
       (.node (decide (n < (0 : Int)))
        (.leaf (.returned (.int .i64 true 3)))
        (.node (decide (n > (65536 : Int)))
         (.leaf (.returned (.int .i64 true 3)))
         (.leaf (.returned (.int .i64 true 0)))
        )
       )
      )
      (.node (decide (n < (0 : Int)))
       (.leaf (.returned (.int .i64 true 3)))
       (.node (decide (n > (65536 : Int)))
        (.leaf (.returned (.int .i64 true 3)))
        (.leaf (.returned (.int .i64 true 0)))
       )
      )
     )
    )
    (.node (k == (4 : Int))
     (.node (!(k == k && (s == s && (noBytes == b && (n == n && true)))))
      (.leaf (.returned (.int .i64 true 4)))
      (.node (k != (1 : Int))
       (.node (k != (5 : Int))
        (.node (decide (s < (1 : Int)))
         (.leaf (.returned (.int .i64 true 3)))
         (.node (decide (s > (16 : Int)))
          (.leaf (.returned (.int .i64 true 3)))
          (.node (decide (n < (0 : Int)))
           (.leaf (.returned (.int .i64 true 3)))
           (.node (decide (n > (65536 : Int)))
            (.leaf (.returned (.int .i64 true 3)))
            (.leaf (.returned (.int .i64 true 0)))
           )
          )
         )
        )
        (.node (decide (n < (0 : Int)))
         (.leaf (.returned (.int .i64 true 3)))
         (.node (decide (n > (65536 : Int)))
          (.leaf (.returned (.int .i64 true 3)))
          (.leaf (.returned (.int .i64 true 0)))
         )
        )
       )
       (.node (decide (n < (0 : Int)))
        (.leaf (.returned (.int .i64 true 3)))
        (.node (decide (n > (65536 : Int)))
         (.leaf (.returned (.int .i64 true 3)))
         (.leaf (.returned (.int .i64 true 0)))
        )
       )
      )
     )
     (.leaf (.returned (.int .i64 true 8)))
    )
   )
  )
 )
)

noncomputable def T_one (k s : Int) (b : ByteArray) (n : Int) : Tree SEnd :=
(.node (decide (k < (1 : Int)))
 (.leaf (.returned (.int .i64 true 8)))
 (.node (decide (k > (5 : Int)))
  (.leaf (.returned (.int .i64 true 8)))
  (.node (k != (1 : Int))
   (.node (k != (5 : Int))
    (.node (k == (3 : Int))
     (.node (k == (4 : Int))
      (.node (!(k == k && (s == s && (b == b && (n == n && true)))))
       (.leaf (.returned (.int .i64 true 4)))
       (.node (k != (1 : Int))
        (.node (k != (5 : Int))
         (.node (decide (s < (1 : Int)))
          (.leaf (.returned (.int .i64 true 3)))
          (.node (decide (s > (16 : Int)))
           (.leaf (.returned (.int .i64 true 3)))
           (.node (decide (n < (0 : Int)))
            (.leaf (.returned (.int .i64 true 3)))
            (.node (decide (n > (65536 : Int)))
             (.leaf (.returned (.int .i64 true 3)))
             (.leaf (.returned (.int .i64 true 0)))
            )
           )
          )
         )
         (.node (decide (n < (0 : Int)))
          (.leaf (.returned (.int .i64 true 3)))
          (.node (decide (n > (65536 : Int)))
           (.leaf (.returned (.int .i64 true 3)))
           (.leaf (.returned (.int .i64 true 0)))
          )
         )
        )
        (.node (decide (n < (0 : Int)))
         (.leaf (.returned (.int .i64 true 3)))
         (.node (decide (n > (65536 : Int)))
          (.leaf (.returned (.int .i64 true 3)))
          (.leaf (.returned (.int .i64 true 0)))
         )
        )
       )
      )
      (.node (!(k == k && (s == s && (b == b && ((0 : Int) == n && true)))))
       (.leaf (.returned (.int .i64 true 4)))
       (.node (k != (1 : Int))
        (.node (k != (5 : Int))
         (.node (decide (s < (1 : Int)))
          (.leaf (.returned (.int .i64 true 3)))
          (.node (decide (s > (16 : Int)))
           (.leaf (.returned (.int .i64 true 3)))
           (.node (decide (n < (0 : Int)))
            (.leaf (.returned (.int .i64 true 3)))
            (.node (decide (n > (65536 : Int)))
             (.leaf (.returned (.int .i64 true 3)))
             (.leaf (.returned (.int .i64 true 0)))
            )
           )
          )
         )
         (.node (decide (n < (0 : Int)))
          (.leaf (.returned (.int .i64 true 3)))
          (.node (decide (n > (65536 : Int)))
           (.leaf (.returned (.int .i64 true 3)))
           (.leaf (.returned (.int .i64 true 0)))
          )
         )
        )
        (.node (decide (n < (0 : Int)))
         (.leaf (.returned (.int .i64 true 3)))
         (.node (decide (n > (65536 : Int)))
          (.leaf (.returned (.int .i64 true 3)))
          (.leaf (.returned (.int .i64 true 0)))
         )
        )
       )
      )
     )
     (.node (k == (4 : Int))
      (.node (!(k == k && (s == s && (noBytes == b && (n == n && true)))))
       (.leaf (.returned (.int .i64 true 4)))
       (.node (k != (1 : Int))
        (.node (k != (5 : Int))
         (.node (decide (s < (1 : Int)))
          (.leaf (.returned (.int .i64 true 3)))
          (.node (decide (s > (16 : Int)))
           (.leaf (.returned (.int .i64 true 3)))
           (.node (decide (n < (0 : Int)))
            (.leaf (.returned (.int .i64 true 3)))
            (.node (decide (n > (65536 : Int)))
             (.leaf (.returned (.int .i64 true 3)))
             (.leaf (.returned (.int .i64 true 0)))
            )
           )
          )
         )
         (.node (decide (n < (0 : Int)))
          (.leaf (.returned (.int .i64 true 3)))
          (.node (decide (n > (65536 : Int)))
           (.leaf (.returned (.int .i64 true 3)))
           (.leaf (.returned (.int .i64 true 0)))
          )
         )
        )
        (.node (decide (n < (0 : Int)))
         (.leaf (.returned (.int .i64 true 3)))
         (.node (decide (n > (65536 : Int)))
          (.leaf (.returned (.int .i64 true 3)))
          (.leaf (.returned (.int .i64 true 0)))
         )
        )
       )
      )
      (.node (!(k == k && (s == s && (noBytes == b && ((0 : Int) == n && true)))))
       (.leaf (.returned (.int .i64 true 4)))
       (.node (k != (1 : Int))
        (.node (k != (5 : Int))
         (.node (decide (s < (1 : Int)))
          (.leaf (.returned (.int .i64 true 3)))
          (.node (decide (s > (16 : Int)))
           (.leaf (.returned (.int .i64 true 3)))
           (.node (decide (n < (0 : Int)))
            (.leaf (.returned (.int .i64 true 3)))
            (.node (decide (n > (65536 : Int)))
             (.leaf (.returned (.int .i64 true 3)))
             (.leaf (.returned (.int .i64 true 0)))
            )
           )
          )
         )
         (.node (decide (n < (0 : Int)))
          (.leaf (.returned (.int .i64 true 3)))
          (.node (decide (n > (65536 : Int)))
           (.leaf (.returned (.int .i64 true 3)))
           (.leaf (.returned (.int .i64 true 0)))
          )
         )
        )
        (.node (decide (n < (0 : Int)))
         (.leaf (.returned (.int .i64 true 3)))
         (.node (decide (n > (65536 : Int)))
          (.leaf (.returned (.int .i64 true 3)))
          (.leaf (.returned (.int .i64 true 0)))
         )
        )
       )
      )
     )
    )
    (.node (k == (3 : Int))
     (.node (k == (4 : Int))
      (.node (!(k == k && ((0 : Int) == s && (b == b && (n == n && true)))))
       (.leaf (.returned (.int .i64 true 4)))
       (.node (k != (1 : Int))
        (.node (k != (5 : Int))
         (.node (decide (s < (1 : Int)))
          (.leaf (.returned (.int .i64 true 3)))
          (.node (decide (s > (16 : Int)))
           (.leaf (.returned (.int .i64 true 3)))
           (.node (decide (n < (0 : Int)))
            (.leaf (.returned (.int .i64 true 3)))
            (.node (decide (n > (65536 : Int)))
             (.leaf (.returned (.int .i64 true 3)))
             (.leaf (.returned (.int .i64 true 0)))
            )
           )
          )
         )
         (.node (decide (n < (0 : Int)))
          (.leaf (.returned (.int .i64 true 3)))
          (.node (decide (n > (65536 : Int)))
           (.leaf (.returned (.int .i64 true 3)))
           (.leaf (.returned (.int .i64 true 0)))
          )
         )
        )
        (.node (decide (n < (0 : Int)))
         (.leaf (.returned (.int .i64 true 3)))
         (.node (decide (n > (65536 : Int)))
          (.leaf (.returned (.int .i64 true 3)))
          (.leaf (.returned (.int .i64 true 0)))
         )
        )
       )
      )
      (.node (!(k == k && ((0 : Int) == s && (b == b && ((0 : Int) == n && true)))))
       (.leaf (.returned (.int .i64 true 4)))
       (.node (k != (1 : Int))
        (.node (k != (5 : Int))
         (.node (decide (s < (1 : Int)))
          (.leaf (.returned (.int .i64 true 3)))
          (.node (decide (s > (16 : Int)))
           (.leaf (.returned (.int .i64 true 3)))
           (.node (decide (n < (0 : Int)))
            (.leaf (.returned (.int .i64 true 3)))
            (.node (decide (n > (65536 : Int)))
             (.leaf (.returned (.int .i64 true 3)))
             (.leaf (.returned (.int .i64 true 0)))
            )
           )
          )
         )
         (.node (decide (n < (0 : Int)))
          (.leaf (.returned (.int .i64 true 3)))
          (.node (decide (n > (65536 : Int)))
           (.leaf (.returned (.int .i64 true 3)))
           (.leaf (.returned (.int .i64 true 0)))
          )
         )
        )
        (.node (decide (n < (0 : Int)))
         (.leaf (.returned (.int .i64 true 3)))
         (.node (decide (n > (65536 : Int)))
          (.leaf (.returned (.int .i64 true 3)))
          (.leaf (.returned (.int .i64 true 0)))
         )
        )
       )
      )
     )
     (.node (k == (4 : Int))
      (.node (!(k == k && ((0 : Int) == s && (noBytes == b && (n == n && true)))))
       (.leaf (.returned (.int .i64 true 4)))
       (.node (k != (1 : Int))
        (.node (k != (5 : Int))
         (.node (decide (s < (1 : Int)))
          (.leaf (.returned (.int .i64 true 3)))
          (.node (decide (s > (16 : Int)))
           (.leaf (.returned (.int .i64 true 3)))
           (.node (decide (n < (0 : Int)))
            (.leaf (.returned (.int .i64 true 3)))
            (.node (decide (n > (65536 : Int)))
             (.leaf (.returned (.int .i64 true 3)))
             (.leaf (.returned (.int .i64 true 0)))
            )
           )
          )
         )
         (.node (decide (n < (0 : Int)))
          (.leaf (.returned (.int .i64 true 3)))
          (.node (decide (n > (65536 : Int)))
           (.leaf (.returned (.int .i64 true 3)))
           (.leaf (.returned (.int .i64 true 0)))
          )
         )
        )
        (.node (decide (n < (0 : Int)))
         (.leaf (.returned (.int .i64 true 3)))
         (.node (decide (n > (65536 : Int)))
          (.leaf (.returned (.int .i64 true 3)))
          (.leaf (.returned (.int .i64 true 0)))
         )
        )
       )
      )
      (.node (!(k == k && ((0 : Int) == s && (noBytes == b && ((0 : Int) == n && true)))))
       (.leaf (.returned (.int .i64 true 4)))
       (.node (k != (1 : Int))
        (.node (k != (5 : Int))
         (.node (decide (s < (1 : Int)))
          (.leaf (.returned (.int .i64 true 3)))
          (.node (decide (s > (16 : Int)))
           (.leaf (.returned (.int .i64 true 3)))
           (.node (decide (n < (0 : Int)))
            (.leaf (.returned (.int .i64 true 3)))
            (.node (decide (n > (65536 : Int)))
             (.leaf (.returned (.int .i64 true 3)))
             (.leaf (.returned (.int .i64 true 0)))
            )
           )
          )
         )
         (.node (decide (n < (0 : Int)))
          (.leaf (.returned (.int .i64 true 3)))
          (.node (decide (n > (65536 : Int)))
           (.leaf (.returned (.int .i64 true 3)))
           (.leaf (.returned (.int .i64 true 0)))
          )
         )
        )
        (.node (decide (n < (0 : Int)))
         (.leaf (.returned (.int .i64 true 3)))
         (.node (decide (n > (65536 : Int)))
          (.leaf (.returned (.int .i64 true 3)))
          (.leaf (.returned (.int .i64 true 0)))
         )
        )
       )
      )
     )
    )
   )
   (.node (k == (3 : Int))
    (.node (k == (4 : Int))
     (.node (!(k == k && ((0 : Int) == s && (b == b && (n == n && true)))))
      (.leaf (.returned (.int .i64 true 4)))
      (.node (k != (1 : Int))
       (.node (k != (5 : Int))
        (.node (decide (s < (1 : Int)))
         (.leaf (.returned (.int .i64 true 3)))
         (.node (decide (s > (16 : Int)))
          (.leaf (.returned (.int .i64 true 3)))
          (.node (decide (n < (0 : Int)))
           (.leaf (.returned (.int .i64 true 3)))
           (.node (decide (n > (65536 : Int)))
            (.leaf (.returned (.int .i64 true 3)))
            (.leaf (.returned (.int .i64 true 0)))
           )
          )
         )
        )
        (.node (decide (n < (0 : Int)))
         (.leaf (.returned (.int .i64 true 3)))
         (.node (decide (n > (65536 : Int)))
          (.leaf (.returned (.int .i64 true 3)))
          (.leaf (.returned (.int .i64 true 0)))
         )
        )
       )
       (.node (decide (n < (0 : Int)))
        (.leaf (.returned (.int .i64 true 3)))
        (.node (decide (n > (65536 : Int)))
         (.leaf (.returned (.int .i64 true 3)))
         (.leaf (.returned (.int .i64 true 0)))
        )
       )
      )
     )
     (.node (!(k == k && ((0 : Int) == s && (b == b && ((0 : Int) == n && true)))))
      (.leaf (.returned (.int .i64 true 4)))
      (.node (k != (1 : Int))
       (.node (k != (5 : Int))
        (.node (decide (s < (1 : Int)))
         (.leaf (.returned (.int .i64 true 3)))
         (.node (decide (s > (16 : Int)))
          (.leaf (.returned (.int .i64 true 3)))
          (.node (decide (n < (0 : Int)))
           (.leaf (.returned (.int .i64 true 3)))
           (.node (decide (n > (65536 : Int)))
            (.leaf (.returned (.int .i64 true 3)))
            (.leaf (.returned (.int .i64 true 0)))
           )
          )
         )
        )
        (.node (decide (n < (0 : Int)))
         (.leaf (.returned (.int .i64 true 3)))
         (.node (decide (n > (65536 : Int)))
          (.leaf (.returned (.int .i64 true 3)))
          (.leaf (.returned (.int .i64 true 0)))
         )
        )
       )
       (.node (decide (n < (0 : Int)))
        (.leaf (.returned (.int .i64 true 3)))
        (.node (decide (n > (65536 : Int)))
         (.leaf (.returned (.int .i64 true 3)))
         (.leaf (.returned (.int .i64 true 0)))
        )
       )
      )
     )
    )
    (.node (k == (4 : Int))
     (.node (!(k == k && ((0 : Int) == s && (noBytes == b && (n == n && true)))))
      (.leaf (.returned (.int .i64 true 4)))
      (.node (k != (1 : Int))
       (.node (k != (5 : Int))
        (.node (decide (s < (1 : Int)))
         (.leaf (.returned (.int .i64 true 3)))
         (.node (decide (s > (16 : Int)))
          (.leaf (.returned (.int .i64 true 3)))
          (.node (decide (n < (0 : Int)))
           (.leaf (.returned (.int .i64 true 3)))
           (.node (decide (n > (65536 : Int)))
            (.leaf (.returned (.int .i64 true 3)))
            (.leaf (.returned (.int .i64 true 0)))
           )
          )
         )
        )
        (.node (decide (n < (0 : Int)))
         (.leaf (.returned (.int .i64 true 3)))
         (.node (decide (n > (65536 : Int)))
          (.leaf (.returned (.int .i64 true 3)))
          (.leaf (.returned (.int .i64 true 0)))
         )
        )
       )
       (.node (decide (n < (0 : Int)))
        (.leaf (.returned (.int .i64 true 3)))
        (.node (decide (n > (65536 : Int)))
         (.leaf (.returned (.int .i64 true 3)))
         (.leaf (.returned (.int .i64 true 0)))
        )
       )
      )
     )
     (.node (!(k == k && ((0 : Int) == s && (noBytes == b && ((0 : Int) == n && true)))))
      (.leaf (.returned (.int .i64 true 4)))
      (.node (k != (1 : Int))
       (.node (k != (5 : Int))
        (.node (decide (s < (1 : Int)))
         (.leaf (.returned (.int .i64 true 3)))
         (.node (decide (s > (16 : Int)))
          (.leaf (.returned (.int .i64 true 3)))
          (.node (decide (n < (0 : Int)))
           (.leaf (.returned (.int .i64 true 3)))
           (.node (decide (n > (65536 : Int)))
            (.leaf (.returned (.int .i64 true 3)))
            (.leaf (.returned (.int .i64 true 0)))
           )
          )
         )
        )
        (.node (decide (n < (0 : Int)))
         (.leaf (.returned (.int .i64 true 3)))
         (.node (decide (n > (65536 : Int)))
          (.leaf (.returned (.int .i64 true 3)))
          (.leaf (.returned (.int .i64 true 0)))
         )
        )
       )
       (.node (decide (n < (0 : Int)))
        (.leaf (.returned (.int .i64 true 3)))
        (.node (decide (n > (65536 : Int)))
         (.leaf (.returned (.int .i64 true 3)))
         (.leaf (.returned (.int .i64 true 0)))
        )
       )
      )
     )
    )
   )
  )
 )
)


/-- server.CheckSetup; bagatelleref09.CheckSetup; history.checkOp; bagatelleref10.one -/
noncomputable def csV (g : SetD) : Int := resInt (T_cs g.gx g.gxf g.gy g.gyf g.dt g.dtf g.most g.rounds g.sess g.staged g.queue)
noncomputable def r9V (g : SetD) : Int := resInt (T_r9 g.gx g.gxf g.gy g.gyf g.dt g.dtf g.most g.rounds g.sess g.staged g.queue)
noncomputable def opV (o : OpD) : Int := resInt (T_op o.k o.s o.b o.n)
noncomputable def oneV (o : OpD) : Int := resInt (T_one o.k o.s o.b o.n)
noncomputable def sCs (F : SetD → Int) : List SV → Option SV
  | [.agg [.int .i64 _ a, .bool _ af, .int .i64 _ b, .bool _ bf, .int .i64 _ c, .bool _ cf, .int .i64 _ m, .int .i64 _ r, .int .i64 _ s, .int .i64 _ t, .int .i64 _ q]] => some (.int .i64 false (F ⟨a, af, b, bf, c, cf, m, r, s, t, q⟩))
  | _ => none
noncomputable def sOpE (F : OpD → Int) : List SV → Option SV
  | [.agg [.int .i64 _ k, .int .i64 _ s, b, .int .i64 _ n]] => match strOf b with
    | some (_, b) => some (.int .i64 false (F ⟨k, s, b, n⟩))
    | none => none
  | _ => none
end Go.Ev
end
section
/-! Plain laws: what history.Check, bagatelleref10.Check and the two SameScript come to. -/
namespace Go.Ev
open Go Go.IntWalk
theorem resInt_node (c : Bool) (t f : Tree SEnd) : resInt (.node c t f) = bif c then resInt t else resInt f := by cases c <;> rfl
theorem resInt_leaf (k : IntKind) (l : Bool) (n : Int) : resInt (.leaf (.returned (.int k l n))) = n := rfl
theorem resBool_node (c : Bool) (t f : Tree SEnd) : resBool (.node c t f) = bif c then resBool t else resBool f := by cases c <;> rfl
theorem resBool_leaf (l b : Bool) : resBool (.leaf (.returned (.bool l b))) = b := rfl
theorem abs64 {x : Int} (h1 : -9223372036854775808 < x) (h2 : x ≤ 9223372036854775807) : (bif decide (x < IntKind.i64.wrap ((0 : Int) - x)) then IntKind.i64.wrap ((0 : Int) - x) else x) = (x.natAbs : Int) := by
  rw [i64_in (0 - x) ⟨by omega, by omega⟩]
  by_cases h : x < 0 - x
  · rw [decide_eq_true h, cond_true]; omega
  · rw [decide_eq_false h, cond_false]; omega
abbrev in64 (x : Int) : Prop := -9223372036854775808 ≤ x ∧ x ≤ 9223372036854775807
set_option linter.unusedVariables false in
noncomputable def T_reachA (x : Int) (xf : Bool) (y : Int) (yf : Bool) (ax ay : Int) : Tree SEnd :=
(.node (x == (-9223372036854775808 : Int))
 (.node (y == (-9223372036854775808 : Int))
  (.leaf (.returned (.bool true false)))
  (.node (ay == (-9223372036854775808 : Int))
   (.leaf (.returned (.bool true false)))
   (.node (ay != ay)
    (.leaf (.returned (.bool true false)))
    (.node (decide (ay < bif decide ((-9223372036854775807 : Int) < IntKind.i64.wrap ((0 : Int) - (-9223372036854775807 : Int))) then IntKind.i64.wrap ((0 : Int) - (-9223372036854775807 : Int)) else (-9223372036854775807 : Int)))
     (.leaf (.returned (.bool true false)))
     (.node (decide (ay > bif decide ((-9223372036854775807 : Int) < IntKind.i64.wrap ((0 : Int) - (-9223372036854775807 : Int))) then IntKind.i64.wrap ((0 : Int) - (-9223372036854775807 : Int)) else (-9223372036854775807 : Int)))
      (.leaf (.returned (.bool true false)))
      (.leaf (.returned (.bool true false)))
     )
    )
   )
  )
 )
 (.node (y == (-9223372036854775808 : Int))
  (.node (ax == (-9223372036854775808 : Int))
   (.leaf (.returned (.bool true false)))
   (.node (xf)
    (.node (ax != ax)
     (.leaf (.returned (.bool true false)))
     (.node (decide ((bif decide ((-9223372036854775807 : Int) < IntKind.i64.wrap ((0 : Int) - (-9223372036854775807 : Int))) then IntKind.i64.wrap ((0 : Int) - (-9223372036854775807 : Int)) else (-9223372036854775807 : Int)) < ax))
      (.leaf (.returned (.bool true false)))
      (.node (decide ((bif decide ((-9223372036854775807 : Int) < IntKind.i64.wrap ((0 : Int) - (-9223372036854775807 : Int))) then IntKind.i64.wrap ((0 : Int) - (-9223372036854775807 : Int)) else (-9223372036854775807 : Int)) > ax))
       (.leaf (.returned (.bool true false)))
       (.leaf (.returned (.bool true false)))
      )
     )
    )
    (.node (ax != ax)
     (.leaf (.returned (.bool true false)))
     (.node (decide ((bif decide ((-9223372036854775807 : Int) < IntKind.i64.wrap ((0 : Int) - (-9223372036854775807 : Int))) then IntKind.i64.wrap ((0 : Int) - (-9223372036854775807 : Int)) else (-9223372036854775807 : Int)) < ax))
      (.leaf (.returned (.bool true false)))
      (.node (decide ((bif decide ((-9223372036854775807 : Int) < IntKind.i64.wrap ((0 : Int) - (-9223372036854775807 : Int))) then IntKind.i64.wrap ((0 : Int) - (-9223372036854775807 : Int)) else (-9223372036854775807 : Int)) > ax))
       (.leaf (.returned (.bool true false)))
       (.leaf (.returned (.bool true false)))
      )
     )
    )
   )
  )
  (.node (ax == (-9223372036854775808 : Int))
   (.node (ay == (-9223372036854775808 : Int))
    (.leaf (.returned (.bool true false)))
    (.node (ay != ay)
     (.leaf (.returned (.bool true false)))
     (.node (decide (ay < (-9223372036854775807 : Int)))
      (.leaf (.returned (.bool true false)))
      (.node (decide (ay > (-9223372036854775807 : Int)))
       (.leaf (.returned (.bool true false)))
       (.leaf (.returned (.bool true false)))
      )
     )
    )
   )
   (.node (ay == (-9223372036854775808 : Int))
    (.node (xf)
     (.node (ax != ax)
      (.leaf (.returned (.bool true false)))
      (.node (decide ((-9223372036854775807 : Int) < ax))
       (.leaf (.returned (.bool true false)))
       (.node (decide ((-9223372036854775807 : Int) > ax))
        (.leaf (.returned (.bool true false)))
        (.leaf (.returned (.bool true false)))
       )
      )
     )
     (.node (ax != ax)
      (.leaf (.returned (.bool true false)))
      (.node (decide ((-9223372036854775807 : Int) < ax))
       (.leaf (.returned (.bool true false)))
       (.node (decide ((-9223372036854775807 : Int) > ax))
        (.leaf (.returned (.bool true false)))
        (.leaf (.returned (.bool true false)))
       )
      )
     )
    )
    (.node (xf)
     (.node (ay != ay)
      (.node (ax != ax)
       (.leaf (.returned (.bool true false)))
       (.leaf (.returned (.bool true false)))
      )
      (.node (ax != ax)
       (.leaf (.returned (.bool true false)))
       (.node (decide (ay < ax))
        (.leaf (.returned (.bool true false)))
        (.node (decide (ay > ax))
         (.leaf (.returned (.bool true false)))
         (.leaf (.returned (.bool true false)))
        )
       )
      )
     )
     (.node (ay != ay)
      (.node (ax != ax)
       (.node (yf)
        (.leaf (.returned (.bool true false)))
        (.node (decide (ax > IntKind.i64.wrap ((64 : Int) * (2 : Int) ^ min (Int.toNat (32 : Int)) IntKind.i64.bits)))
         (.leaf (.returned (.bool true false)))
         (.leaf (.returned (.bool true true)))
        )
       )
       (.node (yf)
        (.leaf (.returned (.bool true false)))
        (.node (decide (ax > IntKind.i64.wrap ((64 : Int) * (2 : Int) ^ min (Int.toNat (32 : Int)) IntKind.i64.bits)))
         (.leaf (.returned (.bool true false)))
         (.leaf (.returned (.bool true true)))
        )
       )
      )
      (.node (ax != ax)
       (.node (yf)
        (.leaf (.returned (.bool true false)))
        (.node (decide (ay > IntKind.i64.wrap ((64 : Int) * (2 : Int) ^ min (Int.toNat (32 : Int)) IntKind.i64.bits)))
         (.leaf (.returned (.bool true false)))
         (.leaf (.returned (.bool true true)))
        )
       )
       (.node (decide (ay < ax))
        (.node (yf)
         (.leaf (.returned (.bool true false)))
         (.node (decide (ax > IntKind.i64.wrap ((64 : Int) * (2 : Int) ^ min (Int.toNat (32 : Int)) IntKind.i64.bits)))
          (.leaf (.returned (.bool true false)))
          (.leaf (.returned (.bool true true)))
         )
        )
        (.node (decide (ay > ax))
         (.node (yf)
          (.leaf (.returned (.bool true false)))
          (.node (decide (ay > IntKind.i64.wrap ((64 : Int) * (2 : Int) ^ min (Int.toNat (32 : Int)) IntKind.i64.bits)))
           (.leaf (.returned (.bool true false)))
           (.leaf (.returned (.bool true true)))
          )
         )
         (.node (yf)
          (.leaf (.returned (.bool true false)))
          (.node (decide (ax > IntKind.i64.wrap ((64 : Int) * (2 : Int) ^ min (Int.toNat (32 : Int)) IntKind.i64.bits)))
           (.leaf (.returned (.bool true false)))
           (.leaf (.returned (.bool true true)))
          )
         )
        )
       )
      )
     )
    )
   )
  )
 )
)
theorem reach_eq (x : Int) (xf : Bool) (y : Int) (yf : Bool) : T_reach x xf y yf = T_reachA x xf y yf (bif decide (x < IntKind.i64.wrap ((0 : Int) - x)) then IntKind.i64.wrap ((0 : Int) - x) else x) (bif decide (y < IntKind.i64.wrap ((0 : Int) - y)) then IntKind.i64.wrap ((0 : Int) - y) else y) := rfl
set_option maxHeartbeats 1000000 in
theorem reachA_eq (x y a b : Int) (xf yf : Bool) (hx0 : x ≠ -9223372036854775808) (hy0 : y ≠ -9223372036854775808) (ha : 0 ≤ a) (hb : 0 ≤ b) :
    resBool (T_reachA x xf y yf a b) = decide (xf = false ∧ yf = false ∧ a ≤ 274877906944 ∧ b ≤ 274877906944) := by
  unfold T_reachA
  simp only [resBool_node, resBool_leaf]
  have e1 : (x == (-9223372036854775808 : Int)) = false := by simpa using hx0
  have e2 : (y == (-9223372036854775808 : Int)) = false := by simpa using hy0
  have e3 : (a == (-9223372036854775808 : Int)) = false := by rw [beq_eq_false_iff_ne]; omega
  have e4 : (b == (-9223372036854775808 : Int)) = false := by rw [beq_eq_false_iff_ne]; omega
  have e5 : IntKind.i64.wrap ((64 : Int) * (2 : Int) ^ min (Int.toNat (32 : Int)) IntKind.i64.bits) = 274877906944 := by decide
  simp only [e1, e2, cond_false, e3, e4, e5, bne_self_eq_false]
  rcases Bool.eq_false_or_eq_true (decide (b < a)) with d1 | d1 <;> rcases Bool.eq_false_or_eq_true (decide (b > a)) with d2 | d2 <;>
    rcases Bool.eq_false_or_eq_true (decide (a > 274877906944)) with d3 | d3 <;> rcases Bool.eq_false_or_eq_true (decide (b > 274877906944)) with d4 | d4 <;> cases xf <;> cases yf <;> simp only [d1, d2, d3, d4, cond_true, cond_false] <;>
    simp only [decide_eq_true_eq, decide_eq_false_iff_not] at d1 d2 d3 d4 <;> symm <;>
    first
      | (exfalso; omega)
      | (rw [decide_eq_true_eq]; refine ⟨?_, ?_, ?_, ?_⟩ <;> first | trivial | omega)
      | (rw [decide_eq_false_iff_not]; rintro ⟨h5, h6, h7, h8⟩; first | (cases h5; done) | (cases h6; done) | omega)
theorem reachV_eq {x y : Int} (xf yf : Bool) (hx : in64 x) (hy : in64 y) :
    reachV x xf y yf = decide (x ≠ -9223372036854775808 ∧ y ≠ -9223372036854775808 ∧ xf = false ∧ yf = false ∧ (x.natAbs : Int) ≤ 274877906944 ∧ (y.natAbs : Int) ≤ 274877906944) := by
  unfold reachV
  rw [reach_eq]
  have e : ((-9223372036854775808 : Int) == (-9223372036854775808 : Int)) = true := by decide
  by_cases hx0 : x = -9223372036854775808
  · subst hx0
    generalize (bif decide ((-9223372036854775808 : Int) < IntKind.i64.wrap ((0 : Int) - (-9223372036854775808 : Int))) then IntKind.i64.wrap ((0 : Int) - (-9223372036854775808 : Int)) else (-9223372036854775808 : Int)) = a
    generalize (bif decide (y < IntKind.i64.wrap ((0 : Int) - y)) then IntKind.i64.wrap ((0 : Int) - y) else y) = b
    unfold T_reachA
    simp only [resBool_node, resBool_leaf, e, cond_true, Bool.cond_self]
    symm
    rw [decide_eq_false_iff_not]
    exact fun h => h.1 rfl
  · by_cases hy0 : y = -9223372036854775808
    · subst hy0
      generalize (bif decide ((-9223372036854775808 : Int) < IntKind.i64.wrap ((0 : Int) - (-9223372036854775808 : Int))) then IntKind.i64.wrap ((0 : Int) - (-9223372036854775808 : Int)) else (-9223372036854775808 : Int)) = b
      generalize (bif decide (x < IntKind.i64.wrap ((0 : Int) - x)) then IntKind.i64.wrap ((0 : Int) - x) else x) = a
      have e1 : (x == (-9223372036854775808 : Int)) = false := by simpa using hx0
      unfold T_reachA
      simp only [resBool_node, resBool_leaf, e, e1, cond_true, Bool.cond_self]
      symm
      rw [decide_eq_false_iff_not]
      exact fun h => h.2.1 rfl
    · rw [abs64 (x := x) (by omega) hx.2, abs64 (x := y) (by omega) hy.2, reachA_eq x y _ _ xf yf hx0 hy0 (by omega) (by omega), decide_eq_decide]
      exact ⟨fun h => ⟨hx0, hy0, h⟩, fun h => h.2.2⟩
theorem cmpV_eq {a b : Int} (af bf : Bool) (ha : in64 a) (hb : -9223372036854775807 < b) : cmpV a af b bf = if a < b then -1 else if a > b then 1 else 0 := by
  unfold cmpV T_cmp
  simp only [resInt_node, resInt_leaf]
  have e2 : (b == (-9223372036854775808 : Int)) = false := by rw [beq_eq_false_iff_ne]; omega
  by_cases ha0 : a = -9223372036854775808
  · subst ha0
    have h1 : (-9223372036854775808 : Int) < b := by omega
    simp [e2, hb, h1]
  · have e1 : (a == (-9223372036854775808 : Int)) = false := by simpa using ha0
    simp only [e1, e2, cond_false, bne_self_eq_false]
    by_cases h1 : a < b <;> by_cases h2 : a > b <;> simp [h1, h2]
theorem k1024 : IntKind.i64.wrap (IntKind.u64.wrap ((IntKind.u64.wrap (IntKind.u64.wrap (1 : Int) * (2 : Int) ^ min (Int.toNat (32 : Int)) IntKind.u64.bits)).tdiv (IntKind.u64.wrap (1024 : Int)))) = 4194304 := by decide
theorem k8 : IntKind.i64.wrap (IntKind.u64.wrap ((IntKind.u64.wrap (IntKind.u64.wrap (1 : Int) * (2 : Int) ^ min (Int.toNat (32 : Int)) IntKind.u64.bits)).tdiv (IntKind.u64.wrap (8 : Int)))) = 536870912 := by decide
theorem k64 : IntKind.i64.wrap ((64 : Int) * (4294967296 : Int)) = 274877906944 := by decide
theorem k64n : IntKind.i64.wrap (IntKind.i64.wrap ((0 : Int) - (64 : Int)) * (4294967296 : Int)) = -274877906944 := by decide
theorem cmp_ge {c : Int} (cf : Bool) (hc : in64 c) : decide (cmpV c cf 4194304 false ≥ (0 : Int)) = decide (4194304 ≤ c) := by
  rw [cmpV_eq _ _ hc (by decide), decide_eq_decide]
  split
  · omega
  · split <;> omega
theorem cmp_le {c : Int} (cf : Bool) (hc : in64 c) : decide (cmpV c cf 536870912 false ≤ (0 : Int)) = decide (c ≤ 536870912) := by
  rw [cmpV_eq _ _ hc (by decide), decide_eq_decide]
  split
  · omega
  · split <;> omega
/-- When a setup may be. -/
def GoodSetup (g : SetD) : Prop := g.gx ≠ -9223372036854775808 ∧ g.gxf = false ∧ -274877906944 ≤ g.gx ∧ g.gx ≤ 274877906944 ∧ g.gy ≠ -9223372036854775808 ∧ g.gyf = false ∧ -274877906944 ≤ g.gy ∧ g.gy ≤ 274877906944 ∧ g.dtf = false ∧ 4194304 ≤ g.dt ∧ g.dt ≤ 536870912 ∧
  1 ≤ g.most ∧ g.most ≤ 64 ∧ 1 ≤ g.rounds ∧ g.rounds ≤ 16 ∧ 1 ≤ g.sess ∧ g.sess ≤ 16 ∧ 1 ≤ g.staged ∧ g.staged ≤ 64 ∧ 1 ≤ g.queue ∧ g.queue ≤ 65536
theorem cond3 {c : Bool} {t : Int} (h : c = true → t = 3) : (bif c then t else 3) = 3 := by cases c; rfl; exact h rfl
theorem cond3' {c : Bool} {t : Int} (h : c = false → t = 3) : (bif c then 3 else t) = 3 := by cases c; exact h rfl; rfl
theorem csV_r9V {g : SetD} (hx : in64 g.gx) (hy : in64 g.gy) (hd : in64 g.dt) : csV g = r9V g := by
  obtain ⟨a, af, b, bf, c, cf, m, r, s, t, q⟩ := g
  simp only at hx hy hd
  unfold csV r9V T_cs T_r9
  simp only [resInt_node, resInt_leaf, k1024, k8, k64, k64n, cmp_ge _ hd, cmp_le _ hd, reachV_eq _ _ hx hy]
  by_cases hg : GoodSetup ⟨a, af, b, bf, c, cf, m, r, s, t, q⟩
  · obtain ⟨h1, h2, h3, h4, h5, h6, h7, h8, h9, h10, h11, h12, h13, h14, h15, h16, h17, h18, h19, h20, h21⟩ := hg
    simp only at h1 h2 h3 h4 h5 h6 h7 h8 h9 h10 h11 h12 h13 h14 h15 h16 h17 h18 h19 h20 h21
    subst h2 h6 h9
    have d1 : decide (a ≠ -9223372036854775808 ∧ b ≠ -9223372036854775808 ∧ True ∧ True ∧ (a.natAbs : Int) ≤ 274877906944 ∧ (b.natAbs : Int) ≤ 274877906944) = true := by
      rw [decide_eq_true_eq]
      exact ⟨h1, h5, trivial, trivial, by omega, by omega⟩
    have e1 : (a == (-9223372036854775808 : Int)) = false := by simpa using h1
    have e2 : (b == (-9223372036854775808 : Int)) = false := by simpa using h5
    have n1 : ¬ c < 4194304 := by omega
    have n2 : ¬ c > 536870912 := by omega
    have n3 : ¬ m < 1 := by omega
    have n4 : ¬ m > 64 := by omega
    have n5 : ¬ r < 1 := by omega
    have n6 : ¬ r > 16 := by omega
    have n7 : ¬ s < 1 := by omega
    have n8 : ¬ s > 16 := by omega
    have n9 : ¬ t < 1 := by omega
    have n10 : ¬ t > 64 := by omega
    have n11 : ¬ q < 1 := by omega
    have n12 : ¬ q > 65536 := by omega
    have n13 : b ≥ -274877906944 := h7
    have n14 : a ≥ -274877906944 := h3
    simp only [d1, e1, e2, decide_eq_true h4, decide_eq_true h8, decide_eq_true h10, decide_eq_true h11, decide_eq_true n13, decide_eq_true n14, decide_eq_false n1, decide_eq_false n2, decide_eq_false n3, decide_eq_false n4, decide_eq_false n5, decide_eq_false n6, decide_eq_false n7,
      decide_eq_false n8, decide_eq_false n9, decide_eq_false n10, decide_eq_false n11, decide_eq_false n12, Bool.not_true, Bool.not_false, cond_true, cond_false]
  · simp only [GoodSetup] at hg
    refine Eq.trans (b := 3) ?_ (Eq.symm ?_)
    · refine cond3 fun h1 => cond3 fun h2 => cond3' fun h3 => cond3' fun h4 => cond3' fun h5 => cond3' fun h6 => cond3' fun h7 => cond3' fun h8 => cond3' fun h9 => cond3' fun h10 => cond3' fun h11 => cond3' fun h12 => cond3' fun h13 => cond3' fun h14 => absurd ?_ hg
      simp only [Bool.not_not, Bool.not_eq_false', decide_eq_true_eq, decide_eq_false_iff_not] at h1 h2 h3 h4 h5 h6 h7 h8 h9 h10 h11 h12 h13 h14
      obtain ⟨i1, i2, i3, i4, i5, i6⟩ := h4
      exact ⟨i1, i3, by omega, by omega, i2, i4, by omega, by omega, h3, by omega, by omega, by omega, by omega, by omega, by omega, by omega, by omega, by omega, by omega, by omega, by omega⟩
    · refine cond3' fun h1 => cond3 fun h2 => cond3 fun h3 => cond3 fun h4 => cond3' fun h5 => cond3 fun h6 => cond3 fun h7 => cond3' fun h8 => cond3' fun h9 => cond3' fun h10 => cond3' fun h11 => cond3' fun h12 => cond3' fun h13 => cond3' fun h14 => cond3' fun h15 => cond3' fun h16 => cond3' fun h17 => cond3' fun h18 => cond3' fun h19 => cond3' fun h20 => cond3' fun h21 => absurd ?_ hg
      simp only [Bool.not_eq_true', Bool.not_eq_false', decide_eq_true_eq, decide_eq_false_iff_not, beq_eq_false_iff_ne] at h1 h2 h3 h4 h5 h6 h7 h8 h9 h10 h11 h12 h13 h14 h15 h16 h17 h18 h19 h20 h21
      exact ⟨h1, h2, by omega, by omega, h5, h6, by omega, by omega, h9, by omega, by omega, by omega, by omega, by omega, by omega, by omega, by omega, by omega, by omega, by omega, by omega⟩
theorem opV_oneV (o : OpD) : opV o = oneV o := by
  obtain ⟨k, s, b, n⟩ := o
  unfold opV oneV T_op T_one
  simp only [resInt_node, resInt_leaf]
  by_cases k1 : k = 1
  · subst k1; simp
  by_cases k2 : k = 2
  · subst k2; simp
  by_cases k3 : k = 3
  · subst k3; simp
  by_cases k4 : k = 4
  · subst k4; simp
  by_cases k5 : k = 5
  · subst k5; simp
  have e1 : (k == 1) = false := by simpa using k1
  have e2 : (k == 2) = false := by simpa using k2
  have e3 : (k == 3) = false := by simpa using k3
  have e4 : (k == 4) = false := by simpa using k4
  have e5 : (k == 5) = false := by simpa using k5
  simp only [e1, e2, e3, e4, e5, cond_false]
  have : k < 1 ∨ k > 5 := by omega
  rcases this with h | h
  · rw [decide_eq_true h, cond_true]
  · rw [decide_eq_true h, cond_true, decide_eq_false (show ¬ k < 1 by omega), cond_false]
/-- The sum of the lengths. -/
def sumN : List OpD → Nat
  | [] => 0
  | o :: l => o.b.size + sumN l
theorem sumW_eq : ∀ (l : List OpD) (acc : Nat), acc + l.length * 140737488355328 ≤ 4611686018427387904 → (∀ o ∈ l, o.b.size ≤ 140737488355328) → sumW acc l = ((acc + sumN l : Nat) : Int)
  | [], acc, _, _ => by simp [sumW, sumN]
  | o :: l, acc, h, hb => by
    have h1 := hb o (by simp)
    simp only [List.length_cons] at h
    rw [sumW, i64_in _ ⟨by omega, by omega⟩]
    have := sumW_eq l (acc + o.b.size) (by omega) fun p hp => hb p (by simp [hp])
    rw [show ((acc : Int) + (o.b.size : Int)) = ((acc + o.b.size : Nat) : Int) by omega, this, sumN]
    congr 1
    omega
theorem lensR_false : ∀ (l : List OpD) (acc : Nat), acc + sumN l ≤ 3000 → lensR acc l = false
  | [], acc, _ => rfl
  | o :: l, acc, h => by
    simp only [sumN] at h
    rw [lensR, i64_in (65536 - acc) ⟨by omega, by omega⟩, if_neg (by omega), i64_in _ ⟨by omega, by omega⟩, show ((acc : Int) + (o.b.size : Int)) = ((acc + o.b.size : Nat) : Int) by omega]
    exact lensR_false l (acc + o.b.size) (by omega)
theorem check_eq {g : SetD} {l : List OpD} (hcs : csV g = r9V g) (hb : ∀ o ∈ l, o.b.size ≤ 140737488355328) (hl : longQ l = false) : checkR csV opV g l = checkQ r9V oneV g l := by
  have hop : opV = oneV := funext opV_oneV
  unfold checkR checkQ
  rw [hcs, hop]
  by_cases h0 : r9V g = 0
  · rw [if_pos h0, if_pos h0]
    by_cases h4 : 400 < l.length
    · rw [if_pos h4, if_pos (.inl h4)]
    · simp only [longQ, decide_eq_false_iff_not] at hl
      have hs := sumW_eq l 0 (by omega) hb
      rw [Nat.zero_add] at hs
      have hs' : sumW 0 l = (sumN l : Int) := hs
      rw [hs'] at hl ⊢
      have h3 : sumN l ≤ 3000 := by omega
      have := lensR_false l 0 (by omega)
      rw [if_neg h4, show lensR 0 l = false from this, if_neg (by decide), if_neg (by omega)]
  · rw [if_neg h0, if_neg h0]
theorem bytes_refl (b : ByteArray) : (b == b) = true := by
  obtain ⟨d⟩ := b
  show (d == d) = true
  simp
theorem eqOp_refl (o : OpD) : eqOp o o = true := by simp [eqOp, bytes_refl]
theorem sameL_refl : ∀ l : List OpD, sameL l l = true
  | [] => rfl
  | o :: l => by rw [sameL, eqOp_refl, sameL_refl l]; rfl
theorem sameS_refl (g : SetD) (l : List OpD) : sameS g l g l = true := by rw [sameS, sameL_refl]; simp [eqSet]
end Go.Ev
end
section
/-! Bytes one behind the other. -/
namespace Go.Ev
open Go
noncomputable section
/-- One byte more. -/
def ap (m : Nat) (f : Nat → Int) (v : Int) : Nat → Int := fun i => bif Nat.blt i m then f i else valInt (cellAt [.int .u8 false v] 1 0 (i - m))
/-- Two bytes more. -/
def ap2 (m : Nat) (f : Nat → Int) (v w : Int) : Nat → Int := fun i => bif Nat.blt i m then f i else valInt (cellAt [.int .u8 false v, .int .u8 false w] 1 0 (i - m))
/-- A string more. -/
def apS (m : Nat) (f : Nat → Int) (s : ByteArray) : Nat → Int := fun i => bif Nat.blt i m then f i else ((s.data.toList.getD (i - m) 0).toNat : Int)
/-- The ways through appends of bytes, one by one. -/
def putT {α : Type} (m : Nat) (f : Nat → Int) (K : Nat → (Nat → Int) → Tree α) : List Int → Tree α
  | [] => K m f
  | v :: l => .node (Nat.ble (m + 1) 70368744177664 && capRoom (m + 1) 1) (.node (Nat.ble (Nat.div 0 1 + m) m) (putT (m + 1) (ap m f v) K l) .fail) .fail
def apN (m : Nat) : List Int → Nat
  | [] => m
  | _ :: l => apN (m + 1) l
def apF (m : Nat) (f : Nat → Int) : List Int → Nat → Int
  | [] => f
  | v :: l => apF (m + 1) (ap m f v) l
abbrev bO (m : Nat) (f : Nat → Int) : SObj := .arr ⟨false, m⟩ [.int .u8 f] true
/-- The byte of a number at a place: as it is put. -/
abbrev byteV (v : Int) (sh : Int) : Int := IntKind.u8.wrap (v.fdiv (2 ^ (min sh.toNat IntKind.u64.bits)))
abbrev be4 (v : Int) : List Int := [byteV v 24, byteV v 16, byteV v 8, byteV v 0]
abbrev be8 (v : Int) : List Int := [byteV v 56, byteV v 48, byteV v 40, byteV v 32, byteV v 24, byteV v 16, byteV v 8, byteV v 0]
/-- What an array of bytes holds. -/
def bL (m : Nat) (f : Nat → Int) : List UInt8 := (List.range m).map fun i => UInt8.ofNat (f i).toNat
abbrev u8 (v : Int) : UInt8 := UInt8.ofNat v.toNat
end
theorem bL_congr {m : Nat} {f g : Nat → Int} (h : ∀ i, i < m → f i = g i) : bL m f = bL m g := List.map_congr_left fun i hi => by rw [h i (List.mem_range.1 hi)]
theorem blt_of {i m : Nat} (h : i < m) : Nat.blt i m = true := Nat.ble_eq_true_of_le h
theorem blt_not {i m : Nat} (h : ¬ i < m) : Nat.blt i m = false := by
  cases hb : Nat.blt i m with
  | false => rfl
  | true => exact absurd (Nat.le_of_ble_eq_true hb) h
theorem bL_ap (m : Nat) (f : Nat → Int) (v : Int) : bL (m + 1) (ap m f v) = bL m f ++ [u8 v] := by
  unfold bL
  rw [List.range_succ, List.map_append]
  congr 1
  · exact List.map_congr_left fun i hi => by unfold ap; rw [blt_of (List.mem_range.1 hi), cond_true]
  · simp only [List.map_cons, List.map_nil]
    unfold ap
    rw [blt_not (Nat.lt_irrefl m), cond_false, Nat.sub_self]
    rfl
theorem bL_ap2 (m : Nat) (f : Nat → Int) (v w : Int) : bL (m + 2) (ap2 m f v w) = bL m f ++ [u8 v, u8 w] := by
  unfold bL
  rw [List.range_succ, List.range_succ, List.map_append, List.map_append, List.append_assoc]
  congr 1
  · exact List.map_congr_left fun i hi => by unfold ap2; rw [blt_of (List.mem_range.1 hi), cond_true]
  · simp only [List.map_cons, List.map_nil, List.cons_append, List.nil_append]
    unfold ap2
    rw [blt_not (Nat.lt_irrefl m), cond_false, Nat.sub_self, blt_not (by omega : ¬ m + 1 < m), cond_false, show m + 1 - m = 1 by omega]
    rfl
theorem bL_apS (m : Nat) (f : Nat → Int) (s : ByteArray) : bL (m + s.size) (apS m f s) = bL m f ++ s.data.toList := by
  unfold bL
  rw [List.range_add, List.map_append]
  congr 1
  · exact List.map_congr_left fun i hi => by unfold apS; rw [blt_of (List.mem_range.1 hi), cond_true]
  · rw [List.map_map]
    apply List.ext_getElem?
    intro i
    have hs : s.size = s.data.toList.length := by rw [Array.length_toList]; rfl
    rw [List.getElem?_map]
    by_cases hi : i < s.size
    · rw [List.getElem?_range hi, Option.map_some]
      simp only [Function.comp]
      unfold apS
      rw [blt_not (by omega : ¬ m + i < m), cond_false, show m + i - m = i by omega, List.getElem?_eq_getElem (by omega)]
      congr 1
      rw [List.getD_eq_getElem?_getD, List.getElem?_eq_getElem (by omega), Option.getD_some, Int.toNat_natCast]
      exact UInt8.ofNat_toNat
    · rw [List.getElem?_eq_none (by simpa using hi), List.getElem?_eq_none (by omega)]
      rfl
theorem apN_eq : ∀ (l : List Int) (m : Nat), apN m l = m + l.length
  | [], m => rfl
  | v :: l, m => by rw [apN, apN_eq l]; simp only [List.length_cons]; omega
theorem bL_apF : ∀ (l : List Int) (m : Nat) (f : Nat → Int), bL (apN m l) (apF m f l) = bL m f ++ l.map u8
  | [], m, f => by simp [apN, apF]
  | v :: l, m, f => by rw [apN, apF, bL_apF l, bL_ap, List.append_assoc]; rfl
theorem capB {x : Nat} (h : x ≤ 1000000000) : (Nat.ble x 70368744177664 && capRoom x 1) = true := by
  rw [Nat.ble_eq_true_of_le (by omega : x ≤ 70368744177664), Bool.true_and]
  exact Nat.ble_eq_true_of_le (by omega)
theorem bleB (x : Nat) : Nat.ble (Nat.div 0 1 + x) x = true := Nat.ble_eq_true_of_le (show 0 + x ≤ x by omega)
theorem Holds.yesB {α : Type} {p : α → Prop} {c : Bool} {t f : Tree α} (h : c = true) (k : Holds p t) : Holds p (.node c t f) := Holds.node (fun _ => k) fun hf => by rw [h] at hf; cases hf
theorem Holds.put {α : Type} {p : α → Prop} {K : Nat → (Nat → Int) → Tree α} : ∀ (l : List Int) (m : Nat) (f : Nat → Int), m + l.length ≤ 1000000000 → Holds p (K (apN m l) (apF m f l)) → Holds p (putT m f K l)
  | [], _, _, _, h => h
  | v :: l, m, f, hm, h => by
    simp only [List.length_cons] at hm
    exact Holds.yesB (capB (by omega)) (Holds.yesB (bleB m) (Holds.put l (m + 1) (ap m f v) (by omega) h))
end Go.Ev
end
section
/-! The bytes of numbers: shifted at once, or one by one. -/
namespace Go.Ev
open Go
theorem p24 : (2 : Int) ^ min (Int.toNat (24 : Int)) IntKind.u64.bits = 16777216 := by decide
theorem p16 : (2 : Int) ^ min (Int.toNat (16 : Int)) IntKind.u64.bits = 65536 := by decide
theorem p8 : (2 : Int) ^ min (Int.toNat (8 : Int)) IntKind.u64.bits = 256 := by decide
theorem p0 : (2 : Int) ^ min (Int.toNat (0 : Int)) IntKind.u64.bits = 1 := by decide
theorem p32 : (2 : Int) ^ min (Int.toNat (32 : Int)) IntKind.u64.bits = 4294967296 := by decide
theorem p40 : (2 : Int) ^ min (Int.toNat (40 : Int)) IntKind.u64.bits = 1099511627776 := by decide
theorem p48 : (2 : Int) ^ min (Int.toNat (48 : Int)) IntKind.u64.bits = 281474976710656 := by decide
theorem p56 : (2 : Int) ^ min (Int.toNat (56 : Int)) IntKind.u64.bits = 72057594037927936 := by decide
theorem fd (x y : Int) (h : 0 ≤ y) : x.fdiv y = x / y := Int.fdiv_eq_ediv_of_nonneg x h
theorem u64_mod (x : Int) : IntKind.u64.wrap x = x % 18446744073709551616 := by
  unfold IntKind.wrap
  simp [IntKind.signed, IntKind.bits]
theorem u8_mod (x : Int) : IntKind.u8.wrap x = x % 256 := by
  unfold IntKind.wrap
  simp [IntKind.signed, IntKind.bits]
theorem u8_u64 (x : Int) : IntKind.u8.wrap (IntKind.u64.wrap x) = IntKind.u8.wrap x := by
  rw [u8_mod, u8_mod, u64_mod]
  omega
end Go.Ev
end
