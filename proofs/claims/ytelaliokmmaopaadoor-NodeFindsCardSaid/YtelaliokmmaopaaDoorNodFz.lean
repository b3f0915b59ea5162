/- NodeFinds: the walk and what opens a node. -/
import Derived.Test.YtelaliokmmaopaaDoorNodH
import Derived.Test.YtelaliokmmaopaaDoorFrN
